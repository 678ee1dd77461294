/-
  CONTRACTS: bytes.Equal and bytes.HasPrefix at the mark; super.body at any numbers.
-/
import Derived.Test.YteljopjaolegaaaDoorSuperB
import Derived.BigQuiet
namespace Go.Proofs.YteljopjaolegaaaDoor
open Go.RowKit
set_option maxRecDepth 100000
set_option linter.unusedVariables false
set_option linter.unusedSimpArgs false

theorem strS_ne {a b : List UInt8} (h : ¬ a = b) : ((strB a).toList == (strB b).toList) = false := by
  rw [strB, strB, ByteArray.toList_mk, ByteArray.toList_mk]; simpa using h
theorem strS_eq (a : List UInt8) : ((strB a).toList == (strB a).toList) = true := by simp

theorem bequal_any (A B : Option Addr) (n c m d : Nat) (l t : List UInt8) (w : World) (ha : Bs w A n l) (hb : Bs w B m t) :
    Calls Tryd.prog 68 #[.slice A n c, .slice B m d] w fun r w' => r = .returned (.bool (decide (l = t))) ∧ Below w.heap.size w w' := by
  have c1 := run_convert_bs ha c
  have c2 := run_convert_bs hb d
  clear ha hb
  by_cases h : l = t
  · subst h
    rw [decide_eq_true rfl]
    have hne := strS_eq l
    go_enter Tryd.func68, Tryd.ntmps68
    go_wp2
    go_ret
    exact ⟨rfl, Below.refl _ _⟩
  · rw [decide_eq_false h]
    have hne := strS_ne h
    clear h
    go_enter Tryd.func68, Tryd.ntmps68
    go_wp2
    go_ret
    exact ⟨rfl, Below.refl _ _⟩

theorem prefix_any (ad : Addr) (B : Option Addr) (n c : Nat) (l t : List UInt8) (w : World) (ha : Bs w (some ad) n l) (hb : Bs w B 4 t) (hn : 4 ≤ n) (hc : n ≤ c) :
    Calls Tryd.prog 45 #[.slice (some ad) n c, .slice B 4 4] w fun r w' => r = .returned (.bool (decide (l.take 4 = t))) ∧ Below w.heap.size w w' := by
  have C1 : Hid (Calls Tryd.prog 68 #[.slice (some ad) 4 c, .slice B 4 4] w fun r w' => r = .returned (.bool (decide (l.take 4 = t))) ∧ Below w.heap.size w w') := Lib.hid (bequal_any (some ad) B 4 c 4 4 (l.take 4) t w (ha.head 4 hn) hb)
  have h1 : (4 : Int) ≤ (n : Int) := by omega
  have h2 : (4 : Int) ≤ (c : Int) := by omega
  have hm := ha.max
  clear ha hb hn hc
  go_enter Tryd.func45, Tryd.ntmps45
  go_wp2_with (go_at_call 68; (with_reducible refine C1.out.mono ?_); rintro r w1 ⟨rfl, hb⟩; have G1 := Lib.hid hb; clear hb)
  go_ret
  exact ⟨rfl, G1.out⟩

end Go.Proofs.YteljopjaolegaaaDoor
