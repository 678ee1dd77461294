/-
  THE WALK of coffretlaw11.SumJoins.
-/
import Derived.Test.YtmmbofgamipfiaaDoorAwakeA
import Derived.Test.YtmmbofgamipfiaaDoorSumR
namespace Go.Proofs.YtmmbofgamipfiaaDoor
open Go.RowKit

set_option maxHeartbeats 1000000 in
theorem sumJoins_any (x y n : Int) (w : World) (hN : Nib w) (hn : n ≤ 9223372036854775807) :
    Calls Tryd.prog 4 #[.int .i64 x, .int .i64 y, .int .i64 n] w fun e w' => e = .returned (.bool true) ∧ Below w.heap.size w w' := by
  have HN := Lib.hid hN
  clear hN
  by_cases h : MayB x = false ∨ MayB y = false ∨ n < 0
  · have H := Lib.hid h
    clear h
    go_enter Tryd.func4, Tryd.ntmps4
    go_wp2_with (first | (go_at_call 10; refine (awake11 _ HN.out).mono ?_; rintro e w1 ⟨rfl, hb⟩; have Hb := Lib.hid hb; clear hb) | (go_at_call 17; refine (join_bad _ _ _ _ H.out).mono ?_; rintro e w' ⟨rfl, rfl⟩) | (go_at_call 18; refine (rjoin_bad _ _ _ _ H.out).mono ?_; rintro e w' ⟨rfl, rfl⟩))
    go_ret
    exact ⟨rfl, Hb.out⟩
  · obtain ⟨b1, rfl⟩ := MayB.yes (s := x) (by cases hx : MayB x <;> simp_all)
    obtain ⟨b2, rfl⟩ := MayB.yes (s := y) (by cases hx : MayB y <;> simp_all)
    have h0 : ¬ n < 0 := fun e => h (.inr (.inr e))
    obtain ⟨k, rfl⟩ : ∃ k : Nat, n = k := ⟨n.toNat, by omega⟩
    have Hk : Hid (k ≤ 9223372036854775807) := Lib.hid (by omega)
    clear h
    go_enter Tryd.func4, Tryd.ntmps4
    go_wp2_with (first | (go_at_call 10; refine (awake11 _ HN.out).mono ?_; rintro e w1 ⟨rfl, hb⟩; have Hb := Lib.hid hb; clear hb) | (go_at_call 17; refine (join_ok _ _ _ _ Hk.out).mono ?_; rintro e w2 ⟨rfl, hb2⟩; have Hb2 := Lib.hid hb2; clear hb2) | (go_at_call 18; refine (rjoin_ok _ _ _ _ Hk.out).mono ?_; rintro e w3 ⟨rfl, hb3⟩; have Hb3 := Lib.hid hb3; clear hb3))
    go_ret
    exact ⟨rfl, (Hb.out.trans (Hb2.out.mono Hb.out.size)).trans (Hb3.out.mono (Nat.le_trans Hb.out.size Hb2.out.size))⟩

end Go.Proofs.YtmmbofgamipfiaaDoor
