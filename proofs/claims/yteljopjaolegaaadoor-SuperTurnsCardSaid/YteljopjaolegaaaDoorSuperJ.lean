/-
  CONTRACTS: Choose, both sides. (Printed by superchoose.py.)
-/
import Derived.Test.YteljopjaolegaaaDoorSuperI
namespace Go.Proofs.YteljopjaolegaaaDoor
open Go.RowKit
set_option maxRecDepth 100000
set_option linter.unusedVariables false
set_option linter.unusedSimpArgs false

/-- Which of two pages holds. -/
def supChoose (a b : List UInt8) : Sup × Int :=
  if ¬ supCode a 0 = 0 ∧ ¬ supCode b 1 = 0 then (.zero, 140) else if ¬ supCode a 0 = 0 then (supOpen b 1, 0)
  else if supCode b 1 = 0 ∧ (supOpen a 0).version < (supOpen b 1).version then (supOpen b 1, 0) else (supOpen a 0, 0)

set_option maxHeartbeats 1000000 in
theorem schoose_both (A B : Option Addr) (n c m d : Nat) (e f s0 s1 s2 s3 t0 t1 t2 t3 : Int) (w : World) (he : ¬ e = 0) (hf : ¬ f = 0)
    (CA : Hid (∀ wx, Below w.heap.size w wx → Calls Tryd.prog 18 #[.slice A n c, .int .i64 0] wx fun q w' => q = .returned (.tuple #[.agg #[.int .i64 s0, .int .i64 s1, .int .i64 s2, .int .i64 s3], .int .i64 e]) ∧ Below wx.heap.size wx w'))
    (CB : Hid (∀ wx, Below w.heap.size w wx → Calls Tryd.prog 18 #[.slice B m d, .int .i64 1] wx fun q w' => q = .returned (.tuple #[.agg #[.int .i64 t0, .int .i64 t1, .int .i64 t2, .int .i64 t3], .int .i64 f]) ∧ Below wx.heap.size wx w')) :
    Calls Tryd.prog 22 #[.slice A n c, .slice B m d] w fun q w' => q = .returned (.tuple #[.agg #[.int .i64 0, .int .i64 0, .int .i64 0, .int .i64 0], .int .i64 140]) ∧ Below w.heap.size w w' := by
  have S0 := Lib.hid (SupAt.new w 0 0 0 0)
  have G0 : Hid (Below w.heap.size w (w.alloc (.cells #[.int .i64 0, .int .i64 0, .int .i64 0, .int .i64 0] 30))) := Lib.hid ((Below.refl _ _).alloc (Nat.le_refl _) _)
  have C1 := Lib.hid (CA.out _ G0.out)
  have KB : Hid (∀ wx, Below w.heap.size w wx → w.heap.size ≤ wx.heap.size) := Lib.hid (fun wx h => h.size)
  have KA : Hid (∀ wx o, Below w.heap.size w wx → Below w.heap.size w (wx.alloc o)) := Lib.hid (fun wx o h => h.alloc h.size _)
  clear CA
  have hef : (e != 0 && f != 0) = true := by simp [he, hf]
  go_enter Tryd.func22, Tryd.ntmps22
  go_wp2_with (first
    | (go_at_call 18; (with_reducible refine C1.out.mono ?_); rintro q w1 ⟨rfl, hb⟩; have G1 : Hid (Below w.heap.size w w1) := Lib.hid (G0.out.trans (hb.mono (KB.out _ G0.out))); have S1 : Hid (SupAt w1 w.heap.size 0 0 0 0) := Lib.hid (S0.out.below hb); have H1 : Hid (SupAt (w1.alloc (.cells #[.int .i64 s0, .int .i64 s1, .int .i64 s2, .int .i64 s3] 30)) w.heap.size 0 0 0 0) := Lib.hid (S1.out.below ((Below.refl _ _).alloc (Nat.le_refl _) _)); have Q1 : Hid (SupAt (w1.alloc (.cells #[.int .i64 s0, .int .i64 s1, .int .i64 s2, .int .i64 s3] 30)) w1.heap.size s0 s1 s2 s3) := Lib.hid (SupAt.new w1 s0 s1 s2 s3); have C2 := Lib.hid (CB.out (w1.alloc (.cells #[.int .i64 s0, .int .i64 s1, .int .i64 s2, .int .i64 s3] 30)) (KA.out _ _ G1.out)); clear hb)
    | (go_at_call 18; (with_reducible refine C2.out.mono ?_); rintro q w2 ⟨rfl, hb⟩; have G2 : Hid (Below w.heap.size w w2) := Lib.hid ((KA.out _ (.cells #[.int .i64 s0, .int .i64 s1, .int .i64 s2, .int .i64 s3] 30) G1.out).trans (hb.mono (KB.out _ (KA.out _ _ G1.out)))); have E2 : Hid (Below w.heap.size w (w2.alloc (.cells #[.int .i64 t0, .int .i64 t1, .int .i64 t2, .int .i64 t3] 30))) := Lib.hid (KA.out _ _ G2.out); have H2 : Hid (SupAt (w2.alloc (.cells #[.int .i64 t0, .int .i64 t1, .int .i64 t2, .int .i64 t3] 30)) w.heap.size 0 0 0 0) := Lib.hid ((H1.out.below hb).below ((Below.refl _ _).alloc (Nat.le_refl _) _)); have Q2 : Hid (SupAt (w2.alloc (.cells #[.int .i64 t0, .int .i64 t1, .int .i64 t2, .int .i64 t3] 30)) w1.heap.size s0 s1 s2 s3) := Lib.hid ((Q1.out.below hb).below ((Below.refl _ _).alloc (Nat.le_refl _) _)); obtain ⟨c0, c1, c2, c3⟩ := Q2.out.cells; obtain ⟨d0, d1, d2, d3⟩ := H2.out.cells; have f0 := H2.out.free 0; have f1 := H2.out.free 1; have f2 := H2.out.free 2; have f3 := H2.out.free 3; clear hb))
  refine bodyPost_ret (results_row_tmp rfl _ _ w.heap.size 30 _ (0, 0) _ rfl (H2.out.four 0 0 0 0) Tryd.underlying30 rfl (by kernel_rfl)) rfl ⟨rfl, ?_⟩
  exact below_four E2.out _ (Nat.le_refl _) _ _ _ _

set_option maxHeartbeats 1000000 in
theorem schoose_second (A B : Option Addr) (n c m d : Nat) (e f s0 s1 s2 s3 t0 t1 t2 t3 : Int) (w : World) (he : ¬ e = 0) (hf : f = 0)
    (CA : Hid (∀ wx, Below w.heap.size w wx → Calls Tryd.prog 18 #[.slice A n c, .int .i64 0] wx fun q w' => q = .returned (.tuple #[.agg #[.int .i64 s0, .int .i64 s1, .int .i64 s2, .int .i64 s3], .int .i64 e]) ∧ Below wx.heap.size wx w'))
    (CB : Hid (∀ wx, Below w.heap.size w wx → Calls Tryd.prog 18 #[.slice B m d, .int .i64 1] wx fun q w' => q = .returned (.tuple #[.agg #[.int .i64 t0, .int .i64 t1, .int .i64 t2, .int .i64 t3], .int .i64 f]) ∧ Below wx.heap.size wx w')) :
    Calls Tryd.prog 22 #[.slice A n c, .slice B m d] w fun q w' => q = .returned (.tuple #[.agg #[.int .i64 t0, .int .i64 t1, .int .i64 t2, .int .i64 t3], .int .i64 0]) ∧ Below w.heap.size w w' := by
  have S0 := Lib.hid (SupAt.new w 0 0 0 0)
  have G0 : Hid (Below w.heap.size w (w.alloc (.cells #[.int .i64 0, .int .i64 0, .int .i64 0, .int .i64 0] 30))) := Lib.hid ((Below.refl _ _).alloc (Nat.le_refl _) _)
  have C1 := Lib.hid (CA.out _ G0.out)
  have KB : Hid (∀ wx, Below w.heap.size w wx → w.heap.size ≤ wx.heap.size) := Lib.hid (fun wx h => h.size)
  have KA : Hid (∀ wx o, Below w.heap.size w wx → Below w.heap.size w (wx.alloc o)) := Lib.hid (fun wx o h => h.alloc h.size _)
  clear CA
  go_enter Tryd.func22, Tryd.ntmps22
  go_wp2_with (first
    | (go_at_call 18; (with_reducible refine C1.out.mono ?_); rintro q w1 ⟨rfl, hb⟩; have G1 : Hid (Below w.heap.size w w1) := Lib.hid (G0.out.trans (hb.mono (KB.out _ G0.out))); have S1 : Hid (SupAt w1 w.heap.size 0 0 0 0) := Lib.hid (S0.out.below hb); have H1 : Hid (SupAt (w1.alloc (.cells #[.int .i64 s0, .int .i64 s1, .int .i64 s2, .int .i64 s3] 30)) w.heap.size 0 0 0 0) := Lib.hid (S1.out.below ((Below.refl _ _).alloc (Nat.le_refl _) _)); have Q1 : Hid (SupAt (w1.alloc (.cells #[.int .i64 s0, .int .i64 s1, .int .i64 s2, .int .i64 s3] 30)) w1.heap.size s0 s1 s2 s3) := Lib.hid (SupAt.new w1 s0 s1 s2 s3); have C2 := Lib.hid (CB.out (w1.alloc (.cells #[.int .i64 s0, .int .i64 s1, .int .i64 s2, .int .i64 s3] 30)) (KA.out _ _ G1.out)); clear hb)
    | (go_at_call 18; (with_reducible refine C2.out.mono ?_); rintro q w2 ⟨rfl, hb⟩; have G2 : Hid (Below w.heap.size w w2) := Lib.hid ((KA.out _ (.cells #[.int .i64 s0, .int .i64 s1, .int .i64 s2, .int .i64 s3] 30) G1.out).trans (hb.mono (KB.out _ (KA.out _ _ G1.out)))); have E2 : Hid (Below w.heap.size w (w2.alloc (.cells #[.int .i64 t0, .int .i64 t1, .int .i64 t2, .int .i64 t3] 30))) := Lib.hid (KA.out _ _ G2.out); have H2 : Hid (SupAt (w2.alloc (.cells #[.int .i64 t0, .int .i64 t1, .int .i64 t2, .int .i64 t3] 30)) w.heap.size 0 0 0 0) := Lib.hid ((H1.out.below hb).below ((Below.refl _ _).alloc (Nat.le_refl _) _)); have Q2 : Hid (SupAt (w2.alloc (.cells #[.int .i64 t0, .int .i64 t1, .int .i64 t2, .int .i64 t3] 30)) w1.heap.size s0 s1 s2 s3) := Lib.hid ((Q1.out.below hb).below ((Below.refl _ _).alloc (Nat.le_refl _) _)); obtain ⟨c0, c1, c2, c3⟩ := Q2.out.cells; obtain ⟨d0, d1, d2, d3⟩ := H2.out.cells; have f0 := H2.out.free 0; have f1 := H2.out.free 1; have f2 := H2.out.free 2; have f3 := H2.out.free 3; clear hb))
  refine bodyPost_ret (results_row_tmp rfl _ _ w.heap.size 30 _ (0, 0) _ rfl (H2.out.four t0 t1 t2 t3) Tryd.underlying30 rfl (by kernel_rfl)) rfl ⟨rfl, ?_⟩
  exact below_four E2.out _ (Nat.le_refl _) _ _ _ _

set_option maxHeartbeats 1000000 in
theorem schoose_newer (A B : Option Addr) (n c m d : Nat) (e f s0 s1 s2 s3 t0 t1 t2 t3 : Int) (w : World) (he : e = 0) (hf : f = 0) (hl : s0 < t0)
    (CA : Hid (∀ wx, Below w.heap.size w wx → Calls Tryd.prog 18 #[.slice A n c, .int .i64 0] wx fun q w' => q = .returned (.tuple #[.agg #[.int .i64 s0, .int .i64 s1, .int .i64 s2, .int .i64 s3], .int .i64 e]) ∧ Below wx.heap.size wx w'))
    (CB : Hid (∀ wx, Below w.heap.size w wx → Calls Tryd.prog 18 #[.slice B m d, .int .i64 1] wx fun q w' => q = .returned (.tuple #[.agg #[.int .i64 t0, .int .i64 t1, .int .i64 t2, .int .i64 t3], .int .i64 f]) ∧ Below wx.heap.size wx w')) :
    Calls Tryd.prog 22 #[.slice A n c, .slice B m d] w fun q w' => q = .returned (.tuple #[.agg #[.int .i64 t0, .int .i64 t1, .int .i64 t2, .int .i64 t3], .int .i64 0]) ∧ Below w.heap.size w w' := by
  have S0 := Lib.hid (SupAt.new w 0 0 0 0)
  have G0 : Hid (Below w.heap.size w (w.alloc (.cells #[.int .i64 0, .int .i64 0, .int .i64 0, .int .i64 0] 30))) := Lib.hid ((Below.refl _ _).alloc (Nat.le_refl _) _)
  have C1 := Lib.hid (CA.out _ G0.out)
  have KB : Hid (∀ wx, Below w.heap.size w wx → w.heap.size ≤ wx.heap.size) := Lib.hid (fun wx h => h.size)
  have KA : Hid (∀ wx o, Below w.heap.size w wx → Below w.heap.size w (wx.alloc o)) := Lib.hid (fun wx o h => h.alloc h.size _)
  clear CA
  go_enter Tryd.func22, Tryd.ntmps22
  go_wp2_with (first
    | (go_at_call 18; (with_reducible refine C1.out.mono ?_); rintro q w1 ⟨rfl, hb⟩; have G1 : Hid (Below w.heap.size w w1) := Lib.hid (G0.out.trans (hb.mono (KB.out _ G0.out))); have S1 : Hid (SupAt w1 w.heap.size 0 0 0 0) := Lib.hid (S0.out.below hb); have H1 : Hid (SupAt (w1.alloc (.cells #[.int .i64 s0, .int .i64 s1, .int .i64 s2, .int .i64 s3] 30)) w.heap.size 0 0 0 0) := Lib.hid (S1.out.below ((Below.refl _ _).alloc (Nat.le_refl _) _)); have Q1 : Hid (SupAt (w1.alloc (.cells #[.int .i64 s0, .int .i64 s1, .int .i64 s2, .int .i64 s3] 30)) w1.heap.size s0 s1 s2 s3) := Lib.hid (SupAt.new w1 s0 s1 s2 s3); have C2 := Lib.hid (CB.out (w1.alloc (.cells #[.int .i64 s0, .int .i64 s1, .int .i64 s2, .int .i64 s3] 30)) (KA.out _ _ G1.out)); clear hb)
    | (go_at_call 18; (with_reducible refine C2.out.mono ?_); rintro q w2 ⟨rfl, hb⟩; have G2 : Hid (Below w.heap.size w w2) := Lib.hid ((KA.out _ (.cells #[.int .i64 s0, .int .i64 s1, .int .i64 s2, .int .i64 s3] 30) G1.out).trans (hb.mono (KB.out _ (KA.out _ _ G1.out)))); have E2 : Hid (Below w.heap.size w (w2.alloc (.cells #[.int .i64 t0, .int .i64 t1, .int .i64 t2, .int .i64 t3] 30))) := Lib.hid (KA.out _ _ G2.out); have H2 : Hid (SupAt (w2.alloc (.cells #[.int .i64 t0, .int .i64 t1, .int .i64 t2, .int .i64 t3] 30)) w.heap.size 0 0 0 0) := Lib.hid ((H1.out.below hb).below ((Below.refl _ _).alloc (Nat.le_refl _) _)); have Q2 : Hid (SupAt (w2.alloc (.cells #[.int .i64 t0, .int .i64 t1, .int .i64 t2, .int .i64 t3] 30)) w1.heap.size s0 s1 s2 s3) := Lib.hid ((Q1.out.below hb).below ((Below.refl _ _).alloc (Nat.le_refl _) _)); obtain ⟨c0, c1, c2, c3⟩ := Q2.out.cells; obtain ⟨d0, d1, d2, d3⟩ := H2.out.cells; have f0 := H2.out.free 0; have f1 := H2.out.free 1; have f2 := H2.out.free 2; have f3 := H2.out.free 3; clear hb))
  refine bodyPost_ret (results_row_tmp rfl _ _ w.heap.size 30 _ (0, 0) _ rfl (H2.out.four t0 t1 t2 t3) Tryd.underlying30 rfl (by kernel_rfl)) rfl ⟨rfl, ?_⟩
  exact below_four E2.out _ (Nat.le_refl _) _ _ _ _

set_option maxHeartbeats 1000000 in
theorem schoose_elder (A B : Option Addr) (n c m d : Nat) (e f s0 s1 s2 s3 t0 t1 t2 t3 : Int) (w : World) (he : e = 0) (hf : f = 0) (hl : ¬ s0 < t0)
    (CA : Hid (∀ wx, Below w.heap.size w wx → Calls Tryd.prog 18 #[.slice A n c, .int .i64 0] wx fun q w' => q = .returned (.tuple #[.agg #[.int .i64 s0, .int .i64 s1, .int .i64 s2, .int .i64 s3], .int .i64 e]) ∧ Below wx.heap.size wx w'))
    (CB : Hid (∀ wx, Below w.heap.size w wx → Calls Tryd.prog 18 #[.slice B m d, .int .i64 1] wx fun q w' => q = .returned (.tuple #[.agg #[.int .i64 t0, .int .i64 t1, .int .i64 t2, .int .i64 t3], .int .i64 f]) ∧ Below wx.heap.size wx w')) :
    Calls Tryd.prog 22 #[.slice A n c, .slice B m d] w fun q w' => q = .returned (.tuple #[.agg #[.int .i64 s0, .int .i64 s1, .int .i64 s2, .int .i64 s3], .int .i64 0]) ∧ Below w.heap.size w w' := by
  have S0 := Lib.hid (SupAt.new w 0 0 0 0)
  have G0 : Hid (Below w.heap.size w (w.alloc (.cells #[.int .i64 0, .int .i64 0, .int .i64 0, .int .i64 0] 30))) := Lib.hid ((Below.refl _ _).alloc (Nat.le_refl _) _)
  have C1 := Lib.hid (CA.out _ G0.out)
  have KB : Hid (∀ wx, Below w.heap.size w wx → w.heap.size ≤ wx.heap.size) := Lib.hid (fun wx h => h.size)
  have KA : Hid (∀ wx o, Below w.heap.size w wx → Below w.heap.size w (wx.alloc o)) := Lib.hid (fun wx o h => h.alloc h.size _)
  clear CA
  go_enter Tryd.func22, Tryd.ntmps22
  go_wp2_with (first
    | (go_at_call 18; (with_reducible refine C1.out.mono ?_); rintro q w1 ⟨rfl, hb⟩; have G1 : Hid (Below w.heap.size w w1) := Lib.hid (G0.out.trans (hb.mono (KB.out _ G0.out))); have S1 : Hid (SupAt w1 w.heap.size 0 0 0 0) := Lib.hid (S0.out.below hb); have H1 : Hid (SupAt (w1.alloc (.cells #[.int .i64 s0, .int .i64 s1, .int .i64 s2, .int .i64 s3] 30)) w.heap.size 0 0 0 0) := Lib.hid (S1.out.below ((Below.refl _ _).alloc (Nat.le_refl _) _)); have Q1 : Hid (SupAt (w1.alloc (.cells #[.int .i64 s0, .int .i64 s1, .int .i64 s2, .int .i64 s3] 30)) w1.heap.size s0 s1 s2 s3) := Lib.hid (SupAt.new w1 s0 s1 s2 s3); have C2 := Lib.hid (CB.out (w1.alloc (.cells #[.int .i64 s0, .int .i64 s1, .int .i64 s2, .int .i64 s3] 30)) (KA.out _ _ G1.out)); clear hb)
    | (go_at_call 18; (with_reducible refine C2.out.mono ?_); rintro q w2 ⟨rfl, hb⟩; have G2 : Hid (Below w.heap.size w w2) := Lib.hid ((KA.out _ (.cells #[.int .i64 s0, .int .i64 s1, .int .i64 s2, .int .i64 s3] 30) G1.out).trans (hb.mono (KB.out _ (KA.out _ _ G1.out)))); have E2 : Hid (Below w.heap.size w (w2.alloc (.cells #[.int .i64 t0, .int .i64 t1, .int .i64 t2, .int .i64 t3] 30))) := Lib.hid (KA.out _ _ G2.out); have H2 : Hid (SupAt (w2.alloc (.cells #[.int .i64 t0, .int .i64 t1, .int .i64 t2, .int .i64 t3] 30)) w.heap.size 0 0 0 0) := Lib.hid ((H1.out.below hb).below ((Below.refl _ _).alloc (Nat.le_refl _) _)); have Q2 : Hid (SupAt (w2.alloc (.cells #[.int .i64 t0, .int .i64 t1, .int .i64 t2, .int .i64 t3] 30)) w1.heap.size s0 s1 s2 s3) := Lib.hid ((Q1.out.below hb).below ((Below.refl _ _).alloc (Nat.le_refl _) _)); obtain ⟨c0, c1, c2, c3⟩ := Q2.out.cells; obtain ⟨d0, d1, d2, d3⟩ := H2.out.cells; have f0 := H2.out.free 0; have f1 := H2.out.free 1; have f2 := H2.out.free 2; have f3 := H2.out.free 3; clear hb))
  refine bodyPost_ret (results_row_tmp rfl _ _ w.heap.size 30 _ (0, 0) _ rfl (H2.out.four s0 s1 s2 s3) Tryd.underlying30 rfl (by kernel_rfl)) rfl ⟨rfl, ?_⟩
  exact below_four E2.out _ (Nat.le_refl _) _ _ _ _

set_option maxHeartbeats 1000000 in
theorem schoose_first (A B : Option Addr) (n c m d : Nat) (e f s0 s1 s2 s3 t0 t1 t2 t3 : Int) (w : World) (he : e = 0) (hf : ¬ f = 0)
    (CA : Hid (∀ wx, Below w.heap.size w wx → Calls Tryd.prog 18 #[.slice A n c, .int .i64 0] wx fun q w' => q = .returned (.tuple #[.agg #[.int .i64 s0, .int .i64 s1, .int .i64 s2, .int .i64 s3], .int .i64 e]) ∧ Below wx.heap.size wx w'))
    (CB : Hid (∀ wx, Below w.heap.size w wx → Calls Tryd.prog 18 #[.slice B m d, .int .i64 1] wx fun q w' => q = .returned (.tuple #[.agg #[.int .i64 t0, .int .i64 t1, .int .i64 t2, .int .i64 t3], .int .i64 f]) ∧ Below wx.heap.size wx w')) :
    Calls Tryd.prog 22 #[.slice A n c, .slice B m d] w fun q w' => q = .returned (.tuple #[.agg #[.int .i64 s0, .int .i64 s1, .int .i64 s2, .int .i64 s3], .int .i64 0]) ∧ Below w.heap.size w w' := by
  have S0 := Lib.hid (SupAt.new w 0 0 0 0)
  have G0 : Hid (Below w.heap.size w (w.alloc (.cells #[.int .i64 0, .int .i64 0, .int .i64 0, .int .i64 0] 30))) := Lib.hid ((Below.refl _ _).alloc (Nat.le_refl _) _)
  have C1 := Lib.hid (CA.out _ G0.out)
  have KB : Hid (∀ wx, Below w.heap.size w wx → w.heap.size ≤ wx.heap.size) := Lib.hid (fun wx h => h.size)
  have KA : Hid (∀ wx o, Below w.heap.size w wx → Below w.heap.size w (wx.alloc o)) := Lib.hid (fun wx o h => h.alloc h.size _)
  clear CA
  go_enter Tryd.func22, Tryd.ntmps22
  go_wp2_with (first
    | (go_at_call 18; (with_reducible refine C1.out.mono ?_); rintro q w1 ⟨rfl, hb⟩; have G1 : Hid (Below w.heap.size w w1) := Lib.hid (G0.out.trans (hb.mono (KB.out _ G0.out))); have S1 : Hid (SupAt w1 w.heap.size 0 0 0 0) := Lib.hid (S0.out.below hb); have H1 : Hid (SupAt (w1.alloc (.cells #[.int .i64 s0, .int .i64 s1, .int .i64 s2, .int .i64 s3] 30)) w.heap.size 0 0 0 0) := Lib.hid (S1.out.below ((Below.refl _ _).alloc (Nat.le_refl _) _)); have Q1 : Hid (SupAt (w1.alloc (.cells #[.int .i64 s0, .int .i64 s1, .int .i64 s2, .int .i64 s3] 30)) w1.heap.size s0 s1 s2 s3) := Lib.hid (SupAt.new w1 s0 s1 s2 s3); have C2 := Lib.hid (CB.out (w1.alloc (.cells #[.int .i64 s0, .int .i64 s1, .int .i64 s2, .int .i64 s3] 30)) (KA.out _ _ G1.out)); clear hb)
    | (go_at_call 18; (with_reducible refine C2.out.mono ?_); rintro q w2 ⟨rfl, hb⟩; have G2 : Hid (Below w.heap.size w w2) := Lib.hid ((KA.out _ (.cells #[.int .i64 s0, .int .i64 s1, .int .i64 s2, .int .i64 s3] 30) G1.out).trans (hb.mono (KB.out _ (KA.out _ _ G1.out)))); have E2 : Hid (Below w.heap.size w (w2.alloc (.cells #[.int .i64 t0, .int .i64 t1, .int .i64 t2, .int .i64 t3] 30))) := Lib.hid (KA.out _ _ G2.out); have H2 : Hid (SupAt (w2.alloc (.cells #[.int .i64 t0, .int .i64 t1, .int .i64 t2, .int .i64 t3] 30)) w.heap.size 0 0 0 0) := Lib.hid ((H1.out.below hb).below ((Below.refl _ _).alloc (Nat.le_refl _) _)); have Q2 : Hid (SupAt (w2.alloc (.cells #[.int .i64 t0, .int .i64 t1, .int .i64 t2, .int .i64 t3] 30)) w1.heap.size s0 s1 s2 s3) := Lib.hid ((Q1.out.below hb).below ((Below.refl _ _).alloc (Nat.le_refl _) _)); obtain ⟨c0, c1, c2, c3⟩ := Q2.out.cells; obtain ⟨d0, d1, d2, d3⟩ := H2.out.cells; have f0 := H2.out.free 0; have f1 := H2.out.free 1; have f2 := H2.out.free 2; have f3 := H2.out.free 3; clear hb))
  refine bodyPost_ret (results_row_tmp rfl _ _ w.heap.size 30 _ (0, 0) _ rfl (H2.out.four s0 s1 s2 s3) Tryd.underlying30 rfl (by kernel_rfl)) rfl ⟨rfl, ?_⟩
  exact below_four E2.out _ (Nat.le_refl _) _ _ _ _

theorem schoose_any (A B : Option Addr) (n c m d : Nat) (a b : List UInt8) (w : World) (hN : Nib w) (ha : Bs w A n a) (hb : Bs w B m b) (hc : n ≤ c) (hd : m ≤ d) :
    Calls Tryd.prog 22 #[.slice A n c, .slice B m d] w fun q w' => q = .returned (.tuple #[(supChoose a b).1.val, .int .i64 (supChoose a b).2]) ∧ Below w.heap.size w w' := by
  have CA : Hid (∀ wx, Below w.heap.size w wx → Calls Tryd.prog 18 #[.slice A n c, .int .i64 0] wx fun q w' => q = .returned (.tuple #[(supOpen a 0).val, .int .i64 (supCode a 0)]) ∧ Below wx.heap.size wx w') := Lib.hid (fun wx hx => sopen_any A n c a 0 wx (hN.below hx) (ha.below hx) hc)
  have CB : Hid (∀ wx, Below w.heap.size w wx → Calls Tryd.prog 18 #[.slice B m d, .int .i64 1] wx fun q w' => q = .returned (.tuple #[(supOpen b 1).val, .int .i64 (supCode b 1)]) ∧ Below wx.heap.size wx w') := Lib.hid (fun wx hx => sopen_any B m d b 1 wx (hN.below hx) (hb.below hx) hd)
  by_cases he : supCode a 0 = 0
  · by_cases hf : supCode b 1 = 0
    · by_cases hl : (supOpen a 0).version < (supOpen b 1).version
      · have e : supChoose a b = (supOpen b 1, 0) := by rw [supChoose, if_neg (fun h => h.1 he), if_neg (not_not_intro he), if_pos ⟨hf, hl⟩]
        rw [e]
        exact schoose_newer A B n c m d _ _ _ _ _ _ _ _ _ _ w he hf hl CA CB
      · have e : supChoose a b = (supOpen a 0, 0) := by rw [supChoose, if_neg (fun h => h.1 he), if_neg (not_not_intro he), if_neg (fun h => hl h.2)]
        rw [e]
        exact schoose_elder A B n c m d _ _ _ _ _ _ _ _ _ _ w he hf hl CA CB
    · have e : supChoose a b = (supOpen a 0, 0) := by rw [supChoose, if_neg (fun h => h.1 he), if_neg (not_not_intro he), if_neg (fun h => hf h.1)]
      rw [e]
      exact schoose_first A B n c m d _ _ _ _ _ _ _ _ _ _ w he hf CA CB
  · by_cases hf : supCode b 1 = 0
    · have e : supChoose a b = (supOpen b 1, 0) := by rw [supChoose, if_neg (fun h => h.2 hf), if_pos he]
      rw [e]
      exact schoose_second A B n c m d _ _ _ _ _ _ _ _ _ _ w he hf CA CB
    · have e : supChoose a b = (.zero, 140) := by rw [supChoose, if_pos ⟨he, hf⟩]
      rw [e]
      exact schoose_both A B n c m d _ _ _ _ _ _ _ _ _ _ w he hf CA CB

set_option maxHeartbeats 1000000 in
theorem rschoose_both (A B : Option Addr) (n c m d : Nat) (e f s0 s1 s2 s3 t0 t1 t2 t3 : Int) (w : World) (he : ¬ e = 0) (hf : ¬ f = 0)
    (CA : Hid (∀ wx, Below w.heap.size w wx → Calls Tryd.prog 20 #[.slice A n c, .int .i64 0] wx fun q w' => q = .returned (.tuple #[.agg #[.int .i64 s0, .int .i64 s1, .int .i64 s2, .int .i64 s3], .int .i64 e]) ∧ Below wx.heap.size wx w'))
    (CB : Hid (∀ wx, Below w.heap.size w wx → Calls Tryd.prog 20 #[.slice B m d, .int .i64 1] wx fun q w' => q = .returned (.tuple #[.agg #[.int .i64 t0, .int .i64 t1, .int .i64 t2, .int .i64 t3], .int .i64 f]) ∧ Below wx.heap.size wx w')) :
    Calls Tryd.prog 23 #[.slice A n c, .slice B m d] w fun q w' => q = .returned (.tuple #[.agg #[.int .i64 0, .int .i64 0, .int .i64 0, .int .i64 0], .int .i64 140]) ∧ Below w.heap.size w w' := by
  have S0 := Lib.hid (SupAt.new w 0 0 0 0)
  have G0 : Hid (Below w.heap.size w (w.alloc (.cells #[.int .i64 0, .int .i64 0, .int .i64 0, .int .i64 0] 30))) := Lib.hid ((Below.refl _ _).alloc (Nat.le_refl _) _)
  have C1 := Lib.hid (CA.out _ G0.out)
  have KB : Hid (∀ wx, Below w.heap.size w wx → w.heap.size ≤ wx.heap.size) := Lib.hid (fun wx h => h.size)
  have KA : Hid (∀ wx o, Below w.heap.size w wx → Below w.heap.size w (wx.alloc o)) := Lib.hid (fun wx o h => h.alloc h.size _)
  clear CA
  have hef : (e != 0 && f != 0) = true := by simp [he, hf]
  go_enter Tryd.func23, Tryd.ntmps23
  go_wp2_with (first
    | (go_at_call 20; (with_reducible refine C1.out.mono ?_); rintro q w1 ⟨rfl, hb⟩; have G1 : Hid (Below w.heap.size w w1) := Lib.hid (G0.out.trans (hb.mono (KB.out _ G0.out))); have S1 : Hid (SupAt w1 w.heap.size 0 0 0 0) := Lib.hid (S0.out.below hb); have H1 : Hid (SupAt (w1.alloc (.cells #[.int .i64 s0, .int .i64 s1, .int .i64 s2, .int .i64 s3] 30)) w.heap.size 0 0 0 0) := Lib.hid (S1.out.below ((Below.refl _ _).alloc (Nat.le_refl _) _)); have Q1 : Hid (SupAt (w1.alloc (.cells #[.int .i64 s0, .int .i64 s1, .int .i64 s2, .int .i64 s3] 30)) w1.heap.size s0 s1 s2 s3) := Lib.hid (SupAt.new w1 s0 s1 s2 s3); have C2 := Lib.hid (CB.out (w1.alloc (.cells #[.int .i64 s0, .int .i64 s1, .int .i64 s2, .int .i64 s3] 30)) (KA.out _ _ G1.out)); clear hb)
    | (go_at_call 20; (with_reducible refine C2.out.mono ?_); rintro q w2 ⟨rfl, hb⟩; have G2 : Hid (Below w.heap.size w w2) := Lib.hid ((KA.out _ (.cells #[.int .i64 s0, .int .i64 s1, .int .i64 s2, .int .i64 s3] 30) G1.out).trans (hb.mono (KB.out _ (KA.out _ _ G1.out)))); have E2 : Hid (Below w.heap.size w (w2.alloc (.cells #[.int .i64 t0, .int .i64 t1, .int .i64 t2, .int .i64 t3] 30))) := Lib.hid (KA.out _ _ G2.out); have H2 : Hid (SupAt (w2.alloc (.cells #[.int .i64 t0, .int .i64 t1, .int .i64 t2, .int .i64 t3] 30)) w.heap.size 0 0 0 0) := Lib.hid ((H1.out.below hb).below ((Below.refl _ _).alloc (Nat.le_refl _) _)); have Q2 : Hid (SupAt (w2.alloc (.cells #[.int .i64 t0, .int .i64 t1, .int .i64 t2, .int .i64 t3] 30)) w1.heap.size s0 s1 s2 s3) := Lib.hid ((Q1.out.below hb).below ((Below.refl _ _).alloc (Nat.le_refl _) _)); obtain ⟨c0, c1, c2, c3⟩ := Q2.out.cells; obtain ⟨d0, d1, d2, d3⟩ := H2.out.cells; have f0 := H2.out.free 0; have f1 := H2.out.free 1; have f2 := H2.out.free 2; have f3 := H2.out.free 3; clear hb))
  refine bodyPost_ret (results_row_tmp rfl _ _ w.heap.size 30 _ (0, 0) _ rfl (H2.out.four 0 0 0 0) Tryd.underlying30 rfl (by kernel_rfl)) rfl ⟨rfl, ?_⟩
  exact below_four E2.out _ (Nat.le_refl _) _ _ _ _

set_option maxHeartbeats 1000000 in
theorem rschoose_second (A B : Option Addr) (n c m d : Nat) (e f s0 s1 s2 s3 t0 t1 t2 t3 : Int) (w : World) (he : ¬ e = 0) (hf : f = 0)
    (CA : Hid (∀ wx, Below w.heap.size w wx → Calls Tryd.prog 20 #[.slice A n c, .int .i64 0] wx fun q w' => q = .returned (.tuple #[.agg #[.int .i64 s0, .int .i64 s1, .int .i64 s2, .int .i64 s3], .int .i64 e]) ∧ Below wx.heap.size wx w'))
    (CB : Hid (∀ wx, Below w.heap.size w wx → Calls Tryd.prog 20 #[.slice B m d, .int .i64 1] wx fun q w' => q = .returned (.tuple #[.agg #[.int .i64 t0, .int .i64 t1, .int .i64 t2, .int .i64 t3], .int .i64 f]) ∧ Below wx.heap.size wx w')) :
    Calls Tryd.prog 23 #[.slice A n c, .slice B m d] w fun q w' => q = .returned (.tuple #[.agg #[.int .i64 t0, .int .i64 t1, .int .i64 t2, .int .i64 t3], .int .i64 0]) ∧ Below w.heap.size w w' := by
  have S0 := Lib.hid (SupAt.new w 0 0 0 0)
  have G0 : Hid (Below w.heap.size w (w.alloc (.cells #[.int .i64 0, .int .i64 0, .int .i64 0, .int .i64 0] 30))) := Lib.hid ((Below.refl _ _).alloc (Nat.le_refl _) _)
  have C1 := Lib.hid (CA.out _ G0.out)
  have KB : Hid (∀ wx, Below w.heap.size w wx → w.heap.size ≤ wx.heap.size) := Lib.hid (fun wx h => h.size)
  have KA : Hid (∀ wx o, Below w.heap.size w wx → Below w.heap.size w (wx.alloc o)) := Lib.hid (fun wx o h => h.alloc h.size _)
  clear CA
  go_enter Tryd.func23, Tryd.ntmps23
  go_wp2_with (first
    | (go_at_call 20; (with_reducible refine C1.out.mono ?_); rintro q w1 ⟨rfl, hb⟩; have G1 : Hid (Below w.heap.size w w1) := Lib.hid (G0.out.trans (hb.mono (KB.out _ G0.out))); have S1 : Hid (SupAt w1 w.heap.size 0 0 0 0) := Lib.hid (S0.out.below hb); have H1 : Hid (SupAt (w1.alloc (.cells #[.int .i64 s0, .int .i64 s1, .int .i64 s2, .int .i64 s3] 30)) w.heap.size 0 0 0 0) := Lib.hid (S1.out.below ((Below.refl _ _).alloc (Nat.le_refl _) _)); have Q1 : Hid (SupAt (w1.alloc (.cells #[.int .i64 s0, .int .i64 s1, .int .i64 s2, .int .i64 s3] 30)) w1.heap.size s0 s1 s2 s3) := Lib.hid (SupAt.new w1 s0 s1 s2 s3); have C2 := Lib.hid (CB.out (w1.alloc (.cells #[.int .i64 s0, .int .i64 s1, .int .i64 s2, .int .i64 s3] 30)) (KA.out _ _ G1.out)); clear hb)
    | (go_at_call 20; (with_reducible refine C2.out.mono ?_); rintro q w2 ⟨rfl, hb⟩; have G2 : Hid (Below w.heap.size w w2) := Lib.hid ((KA.out _ (.cells #[.int .i64 s0, .int .i64 s1, .int .i64 s2, .int .i64 s3] 30) G1.out).trans (hb.mono (KB.out _ (KA.out _ _ G1.out)))); have E2 : Hid (Below w.heap.size w (w2.alloc (.cells #[.int .i64 t0, .int .i64 t1, .int .i64 t2, .int .i64 t3] 30))) := Lib.hid (KA.out _ _ G2.out); have H2 : Hid (SupAt (w2.alloc (.cells #[.int .i64 t0, .int .i64 t1, .int .i64 t2, .int .i64 t3] 30)) w.heap.size 0 0 0 0) := Lib.hid ((H1.out.below hb).below ((Below.refl _ _).alloc (Nat.le_refl _) _)); have Q2 : Hid (SupAt (w2.alloc (.cells #[.int .i64 t0, .int .i64 t1, .int .i64 t2, .int .i64 t3] 30)) w1.heap.size s0 s1 s2 s3) := Lib.hid ((Q1.out.below hb).below ((Below.refl _ _).alloc (Nat.le_refl _) _)); obtain ⟨c0, c1, c2, c3⟩ := Q2.out.cells; obtain ⟨d0, d1, d2, d3⟩ := H2.out.cells; have f0 := H2.out.free 0; have f1 := H2.out.free 1; have f2 := H2.out.free 2; have f3 := H2.out.free 3; clear hb))
  refine bodyPost_ret (results_row_tmp rfl _ _ w.heap.size 30 _ (0, 0) _ rfl (H2.out.four t0 t1 t2 t3) Tryd.underlying30 rfl (by kernel_rfl)) rfl ⟨rfl, ?_⟩
  exact below_four E2.out _ (Nat.le_refl _) _ _ _ _

set_option maxHeartbeats 1000000 in
theorem rschoose_newer (A B : Option Addr) (n c m d : Nat) (e f s0 s1 s2 s3 t0 t1 t2 t3 : Int) (w : World) (he : e = 0) (hf : f = 0) (hl : s0 < t0)
    (CA : Hid (∀ wx, Below w.heap.size w wx → Calls Tryd.prog 20 #[.slice A n c, .int .i64 0] wx fun q w' => q = .returned (.tuple #[.agg #[.int .i64 s0, .int .i64 s1, .int .i64 s2, .int .i64 s3], .int .i64 e]) ∧ Below wx.heap.size wx w'))
    (CB : Hid (∀ wx, Below w.heap.size w wx → Calls Tryd.prog 20 #[.slice B m d, .int .i64 1] wx fun q w' => q = .returned (.tuple #[.agg #[.int .i64 t0, .int .i64 t1, .int .i64 t2, .int .i64 t3], .int .i64 f]) ∧ Below wx.heap.size wx w')) :
    Calls Tryd.prog 23 #[.slice A n c, .slice B m d] w fun q w' => q = .returned (.tuple #[.agg #[.int .i64 t0, .int .i64 t1, .int .i64 t2, .int .i64 t3], .int .i64 0]) ∧ Below w.heap.size w w' := by
  have S0 := Lib.hid (SupAt.new w 0 0 0 0)
  have G0 : Hid (Below w.heap.size w (w.alloc (.cells #[.int .i64 0, .int .i64 0, .int .i64 0, .int .i64 0] 30))) := Lib.hid ((Below.refl _ _).alloc (Nat.le_refl _) _)
  have C1 := Lib.hid (CA.out _ G0.out)
  have KB : Hid (∀ wx, Below w.heap.size w wx → w.heap.size ≤ wx.heap.size) := Lib.hid (fun wx h => h.size)
  have KA : Hid (∀ wx o, Below w.heap.size w wx → Below w.heap.size w (wx.alloc o)) := Lib.hid (fun wx o h => h.alloc h.size _)
  clear CA
  go_enter Tryd.func23, Tryd.ntmps23
  go_wp2_with (first
    | (go_at_call 20; (with_reducible refine C1.out.mono ?_); rintro q w1 ⟨rfl, hb⟩; have G1 : Hid (Below w.heap.size w w1) := Lib.hid (G0.out.trans (hb.mono (KB.out _ G0.out))); have S1 : Hid (SupAt w1 w.heap.size 0 0 0 0) := Lib.hid (S0.out.below hb); have H1 : Hid (SupAt (w1.alloc (.cells #[.int .i64 s0, .int .i64 s1, .int .i64 s2, .int .i64 s3] 30)) w.heap.size 0 0 0 0) := Lib.hid (S1.out.below ((Below.refl _ _).alloc (Nat.le_refl _) _)); have Q1 : Hid (SupAt (w1.alloc (.cells #[.int .i64 s0, .int .i64 s1, .int .i64 s2, .int .i64 s3] 30)) w1.heap.size s0 s1 s2 s3) := Lib.hid (SupAt.new w1 s0 s1 s2 s3); have C2 := Lib.hid (CB.out (w1.alloc (.cells #[.int .i64 s0, .int .i64 s1, .int .i64 s2, .int .i64 s3] 30)) (KA.out _ _ G1.out)); clear hb)
    | (go_at_call 20; (with_reducible refine C2.out.mono ?_); rintro q w2 ⟨rfl, hb⟩; have G2 : Hid (Below w.heap.size w w2) := Lib.hid ((KA.out _ (.cells #[.int .i64 s0, .int .i64 s1, .int .i64 s2, .int .i64 s3] 30) G1.out).trans (hb.mono (KB.out _ (KA.out _ _ G1.out)))); have E2 : Hid (Below w.heap.size w (w2.alloc (.cells #[.int .i64 t0, .int .i64 t1, .int .i64 t2, .int .i64 t3] 30))) := Lib.hid (KA.out _ _ G2.out); have H2 : Hid (SupAt (w2.alloc (.cells #[.int .i64 t0, .int .i64 t1, .int .i64 t2, .int .i64 t3] 30)) w.heap.size 0 0 0 0) := Lib.hid ((H1.out.below hb).below ((Below.refl _ _).alloc (Nat.le_refl _) _)); have Q2 : Hid (SupAt (w2.alloc (.cells #[.int .i64 t0, .int .i64 t1, .int .i64 t2, .int .i64 t3] 30)) w1.heap.size s0 s1 s2 s3) := Lib.hid ((Q1.out.below hb).below ((Below.refl _ _).alloc (Nat.le_refl _) _)); obtain ⟨c0, c1, c2, c3⟩ := Q2.out.cells; obtain ⟨d0, d1, d2, d3⟩ := H2.out.cells; have f0 := H2.out.free 0; have f1 := H2.out.free 1; have f2 := H2.out.free 2; have f3 := H2.out.free 3; clear hb))
  refine bodyPost_ret (results_row_tmp rfl _ _ w.heap.size 30 _ (0, 0) _ rfl (H2.out.four t0 t1 t2 t3) Tryd.underlying30 rfl (by kernel_rfl)) rfl ⟨rfl, ?_⟩
  exact below_four E2.out _ (Nat.le_refl _) _ _ _ _

set_option maxHeartbeats 1000000 in
theorem rschoose_elder (A B : Option Addr) (n c m d : Nat) (e f s0 s1 s2 s3 t0 t1 t2 t3 : Int) (w : World) (he : e = 0) (hf : f = 0) (hl : ¬ s0 < t0)
    (CA : Hid (∀ wx, Below w.heap.size w wx → Calls Tryd.prog 20 #[.slice A n c, .int .i64 0] wx fun q w' => q = .returned (.tuple #[.agg #[.int .i64 s0, .int .i64 s1, .int .i64 s2, .int .i64 s3], .int .i64 e]) ∧ Below wx.heap.size wx w'))
    (CB : Hid (∀ wx, Below w.heap.size w wx → Calls Tryd.prog 20 #[.slice B m d, .int .i64 1] wx fun q w' => q = .returned (.tuple #[.agg #[.int .i64 t0, .int .i64 t1, .int .i64 t2, .int .i64 t3], .int .i64 f]) ∧ Below wx.heap.size wx w')) :
    Calls Tryd.prog 23 #[.slice A n c, .slice B m d] w fun q w' => q = .returned (.tuple #[.agg #[.int .i64 s0, .int .i64 s1, .int .i64 s2, .int .i64 s3], .int .i64 0]) ∧ Below w.heap.size w w' := by
  have S0 := Lib.hid (SupAt.new w 0 0 0 0)
  have G0 : Hid (Below w.heap.size w (w.alloc (.cells #[.int .i64 0, .int .i64 0, .int .i64 0, .int .i64 0] 30))) := Lib.hid ((Below.refl _ _).alloc (Nat.le_refl _) _)
  have C1 := Lib.hid (CA.out _ G0.out)
  have KB : Hid (∀ wx, Below w.heap.size w wx → w.heap.size ≤ wx.heap.size) := Lib.hid (fun wx h => h.size)
  have KA : Hid (∀ wx o, Below w.heap.size w wx → Below w.heap.size w (wx.alloc o)) := Lib.hid (fun wx o h => h.alloc h.size _)
  clear CA
  go_enter Tryd.func23, Tryd.ntmps23
  go_wp2_with (first
    | (go_at_call 20; (with_reducible refine C1.out.mono ?_); rintro q w1 ⟨rfl, hb⟩; have G1 : Hid (Below w.heap.size w w1) := Lib.hid (G0.out.trans (hb.mono (KB.out _ G0.out))); have S1 : Hid (SupAt w1 w.heap.size 0 0 0 0) := Lib.hid (S0.out.below hb); have H1 : Hid (SupAt (w1.alloc (.cells #[.int .i64 s0, .int .i64 s1, .int .i64 s2, .int .i64 s3] 30)) w.heap.size 0 0 0 0) := Lib.hid (S1.out.below ((Below.refl _ _).alloc (Nat.le_refl _) _)); have Q1 : Hid (SupAt (w1.alloc (.cells #[.int .i64 s0, .int .i64 s1, .int .i64 s2, .int .i64 s3] 30)) w1.heap.size s0 s1 s2 s3) := Lib.hid (SupAt.new w1 s0 s1 s2 s3); have C2 := Lib.hid (CB.out (w1.alloc (.cells #[.int .i64 s0, .int .i64 s1, .int .i64 s2, .int .i64 s3] 30)) (KA.out _ _ G1.out)); clear hb)
    | (go_at_call 20; (with_reducible refine C2.out.mono ?_); rintro q w2 ⟨rfl, hb⟩; have G2 : Hid (Below w.heap.size w w2) := Lib.hid ((KA.out _ (.cells #[.int .i64 s0, .int .i64 s1, .int .i64 s2, .int .i64 s3] 30) G1.out).trans (hb.mono (KB.out _ (KA.out _ _ G1.out)))); have E2 : Hid (Below w.heap.size w (w2.alloc (.cells #[.int .i64 t0, .int .i64 t1, .int .i64 t2, .int .i64 t3] 30))) := Lib.hid (KA.out _ _ G2.out); have H2 : Hid (SupAt (w2.alloc (.cells #[.int .i64 t0, .int .i64 t1, .int .i64 t2, .int .i64 t3] 30)) w.heap.size 0 0 0 0) := Lib.hid ((H1.out.below hb).below ((Below.refl _ _).alloc (Nat.le_refl _) _)); have Q2 : Hid (SupAt (w2.alloc (.cells #[.int .i64 t0, .int .i64 t1, .int .i64 t2, .int .i64 t3] 30)) w1.heap.size s0 s1 s2 s3) := Lib.hid ((Q1.out.below hb).below ((Below.refl _ _).alloc (Nat.le_refl _) _)); obtain ⟨c0, c1, c2, c3⟩ := Q2.out.cells; obtain ⟨d0, d1, d2, d3⟩ := H2.out.cells; have f0 := H2.out.free 0; have f1 := H2.out.free 1; have f2 := H2.out.free 2; have f3 := H2.out.free 3; clear hb))
  refine bodyPost_ret (results_row_tmp rfl _ _ w.heap.size 30 _ (0, 0) _ rfl (H2.out.four s0 s1 s2 s3) Tryd.underlying30 rfl (by kernel_rfl)) rfl ⟨rfl, ?_⟩
  exact below_four E2.out _ (Nat.le_refl _) _ _ _ _

set_option maxHeartbeats 1000000 in
theorem rschoose_first (A B : Option Addr) (n c m d : Nat) (e f s0 s1 s2 s3 t0 t1 t2 t3 : Int) (w : World) (he : e = 0) (hf : ¬ f = 0)
    (CA : Hid (∀ wx, Below w.heap.size w wx → Calls Tryd.prog 20 #[.slice A n c, .int .i64 0] wx fun q w' => q = .returned (.tuple #[.agg #[.int .i64 s0, .int .i64 s1, .int .i64 s2, .int .i64 s3], .int .i64 e]) ∧ Below wx.heap.size wx w'))
    (CB : Hid (∀ wx, Below w.heap.size w wx → Calls Tryd.prog 20 #[.slice B m d, .int .i64 1] wx fun q w' => q = .returned (.tuple #[.agg #[.int .i64 t0, .int .i64 t1, .int .i64 t2, .int .i64 t3], .int .i64 f]) ∧ Below wx.heap.size wx w')) :
    Calls Tryd.prog 23 #[.slice A n c, .slice B m d] w fun q w' => q = .returned (.tuple #[.agg #[.int .i64 s0, .int .i64 s1, .int .i64 s2, .int .i64 s3], .int .i64 0]) ∧ Below w.heap.size w w' := by
  have S0 := Lib.hid (SupAt.new w 0 0 0 0)
  have G0 : Hid (Below w.heap.size w (w.alloc (.cells #[.int .i64 0, .int .i64 0, .int .i64 0, .int .i64 0] 30))) := Lib.hid ((Below.refl _ _).alloc (Nat.le_refl _) _)
  have C1 := Lib.hid (CA.out _ G0.out)
  have KB : Hid (∀ wx, Below w.heap.size w wx → w.heap.size ≤ wx.heap.size) := Lib.hid (fun wx h => h.size)
  have KA : Hid (∀ wx o, Below w.heap.size w wx → Below w.heap.size w (wx.alloc o)) := Lib.hid (fun wx o h => h.alloc h.size _)
  clear CA
  go_enter Tryd.func23, Tryd.ntmps23
  go_wp2_with (first
    | (go_at_call 20; (with_reducible refine C1.out.mono ?_); rintro q w1 ⟨rfl, hb⟩; have G1 : Hid (Below w.heap.size w w1) := Lib.hid (G0.out.trans (hb.mono (KB.out _ G0.out))); have S1 : Hid (SupAt w1 w.heap.size 0 0 0 0) := Lib.hid (S0.out.below hb); have H1 : Hid (SupAt (w1.alloc (.cells #[.int .i64 s0, .int .i64 s1, .int .i64 s2, .int .i64 s3] 30)) w.heap.size 0 0 0 0) := Lib.hid (S1.out.below ((Below.refl _ _).alloc (Nat.le_refl _) _)); have Q1 : Hid (SupAt (w1.alloc (.cells #[.int .i64 s0, .int .i64 s1, .int .i64 s2, .int .i64 s3] 30)) w1.heap.size s0 s1 s2 s3) := Lib.hid (SupAt.new w1 s0 s1 s2 s3); have C2 := Lib.hid (CB.out (w1.alloc (.cells #[.int .i64 s0, .int .i64 s1, .int .i64 s2, .int .i64 s3] 30)) (KA.out _ _ G1.out)); clear hb)
    | (go_at_call 20; (with_reducible refine C2.out.mono ?_); rintro q w2 ⟨rfl, hb⟩; have G2 : Hid (Below w.heap.size w w2) := Lib.hid ((KA.out _ (.cells #[.int .i64 s0, .int .i64 s1, .int .i64 s2, .int .i64 s3] 30) G1.out).trans (hb.mono (KB.out _ (KA.out _ _ G1.out)))); have E2 : Hid (Below w.heap.size w (w2.alloc (.cells #[.int .i64 t0, .int .i64 t1, .int .i64 t2, .int .i64 t3] 30))) := Lib.hid (KA.out _ _ G2.out); have H2 : Hid (SupAt (w2.alloc (.cells #[.int .i64 t0, .int .i64 t1, .int .i64 t2, .int .i64 t3] 30)) w.heap.size 0 0 0 0) := Lib.hid ((H1.out.below hb).below ((Below.refl _ _).alloc (Nat.le_refl _) _)); have Q2 : Hid (SupAt (w2.alloc (.cells #[.int .i64 t0, .int .i64 t1, .int .i64 t2, .int .i64 t3] 30)) w1.heap.size s0 s1 s2 s3) := Lib.hid ((Q1.out.below hb).below ((Below.refl _ _).alloc (Nat.le_refl _) _)); obtain ⟨c0, c1, c2, c3⟩ := Q2.out.cells; obtain ⟨d0, d1, d2, d3⟩ := H2.out.cells; have f0 := H2.out.free 0; have f1 := H2.out.free 1; have f2 := H2.out.free 2; have f3 := H2.out.free 3; clear hb))
  refine bodyPost_ret (results_row_tmp rfl _ _ w.heap.size 30 _ (0, 0) _ rfl (H2.out.four s0 s1 s2 s3) Tryd.underlying30 rfl (by kernel_rfl)) rfl ⟨rfl, ?_⟩
  exact below_four E2.out _ (Nat.le_refl _) _ _ _ _

theorem rschoose_any (A B : Option Addr) (n c m d : Nat) (a b : List UInt8) (w : World) (ha : Bs w A n a) (hb : Bs w B m b) (hc : n ≤ c) (hd : m ≤ d) :
    Calls Tryd.prog 23 #[.slice A n c, .slice B m d] w fun q w' => q = .returned (.tuple #[(supChoose a b).1.val, .int .i64 (supChoose a b).2]) ∧ Below w.heap.size w w' := by
  have CA : Hid (∀ wx, Below w.heap.size w wx → Calls Tryd.prog 20 #[.slice A n c, .int .i64 0] wx fun q w' => q = .returned (.tuple #[(supOpen a 0).val, .int .i64 (supCode a 0)]) ∧ Below wx.heap.size wx w') := Lib.hid (fun wx hx => rsopen_any A n c a 0 wx (ha.below hx) hc)
  have CB : Hid (∀ wx, Below w.heap.size w wx → Calls Tryd.prog 20 #[.slice B m d, .int .i64 1] wx fun q w' => q = .returned (.tuple #[(supOpen b 1).val, .int .i64 (supCode b 1)]) ∧ Below wx.heap.size wx w') := Lib.hid (fun wx hx => rsopen_any B m d b 1 wx (hb.below hx) hd)
  by_cases he : supCode a 0 = 0
  · by_cases hf : supCode b 1 = 0
    · by_cases hl : (supOpen a 0).version < (supOpen b 1).version
      · have e : supChoose a b = (supOpen b 1, 0) := by rw [supChoose, if_neg (fun h => h.1 he), if_neg (not_not_intro he), if_pos ⟨hf, hl⟩]
        rw [e]
        exact rschoose_newer A B n c m d _ _ _ _ _ _ _ _ _ _ w he hf hl CA CB
      · have e : supChoose a b = (supOpen a 0, 0) := by rw [supChoose, if_neg (fun h => h.1 he), if_neg (not_not_intro he), if_neg (fun h => hl h.2)]
        rw [e]
        exact rschoose_elder A B n c m d _ _ _ _ _ _ _ _ _ _ w he hf hl CA CB
    · have e : supChoose a b = (supOpen a 0, 0) := by rw [supChoose, if_neg (fun h => h.1 he), if_neg (not_not_intro he), if_neg (fun h => hf h.1)]
      rw [e]
      exact rschoose_first A B n c m d _ _ _ _ _ _ _ _ _ _ w he hf CA CB
  · by_cases hf : supCode b 1 = 0
    · have e : supChoose a b = (supOpen b 1, 0) := by rw [supChoose, if_neg (fun h => h.2 hf), if_pos he]
      rw [e]
      exact rschoose_second A B n c m d _ _ _ _ _ _ _ _ _ _ w he hf CA CB
    · have e : supChoose a b = (.zero, 140) := by rw [supChoose, if_pos ⟨he, hf⟩]
      rw [e]
      exact rschoose_both A B n c m d _ _ _ _ _ _ _ _ _ _ w he hf CA CB

end Go.Proofs.YteljopjaolegaaaDoor
