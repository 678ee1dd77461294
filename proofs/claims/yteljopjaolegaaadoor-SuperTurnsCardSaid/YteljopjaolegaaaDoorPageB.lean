/-
  CONTRACTS: a page that may not be; the reference's page.
-/
import Derived.Test.YteljopjaolegaaaDoorPageA
import Derived.Test.YteljopjaolegaaaDoorOwnedB
namespace Go.Proofs.YteljopjaolegaaaDoor
open Go.RowKit
set_option maxRecDepth 100000
set_option linter.unusedVariables false

theorem make_bad (zi kz : Int) (n c : Nat) (A : Option Addr) (w : World) (h : MakeOk zi kz n = false) :
    Calls Tryd.prog 38 #[.int .i64 zi, .int .i64 kz, .slice A n c] w fun e w' => e = .returned (.tuple #[.slice none 0 0, .int .i64 1]) ∧ w = w' := by
  simp only [MakeOk, decide_eq_false_iff_not] at h
  by_cases h1 : zi < 0
  · clear h
    go_enter Tryd.func38, Tryd.ntmps38
    go_wp2
    go_ret2
    exact ⟨rfl, rfl⟩
  · by_cases h2 : 65536 ≤ zi
    · clear h
      go_enter Tryd.func38, Tryd.ntmps38
      go_wp2
      go_ret2
      exact ⟨rfl, rfl⟩
    · by_cases h3 : kz < 1
      · clear h
        go_enter Tryd.func38, Tryd.ntmps38
        go_wp2
        go_ret2
        exact ⟨rfl, rfl⟩
      · by_cases h4 : 255 < kz
        · clear h
          go_enter Tryd.func38, Tryd.ntmps38
          go_wp2
          go_ret2
          exact ⟨rfl, rfl⟩
        · have h5 : 4085 < (n : Int) := by omega
          clear h
          go_enter Tryd.func38, Tryd.ntmps38
          go_wp2
          go_ret2
          exact ⟨rfl, rfl⟩

theorem rmake_bad (zi kz : Int) (n c : Nat) (A : Option Addr) (w : World) (h : MakeOk zi kz n = false) :
    Calls Tryd.prog 42 #[.int .i64 zi, .int .i64 kz, .slice A n c] w fun e w' => e = .returned (.tuple #[.slice none 0 0, .int .i64 1]) ∧ w = w' := by
  simp only [MakeOk, decide_eq_false_iff_not] at h
  by_cases h1 : zi < 0
  · clear h
    go_enter Tryd.func42, Tryd.ntmps42
    go_wp2
    go_ret2
    exact ⟨rfl, rfl⟩
  · by_cases h2 : 65536 ≤ zi
    · clear h
      go_enter Tryd.func42, Tryd.ntmps42
      go_wp2
      go_ret2
      exact ⟨rfl, rfl⟩
    · by_cases h3 : kz < 1
      · clear h
        go_enter Tryd.func42, Tryd.ntmps42
        go_wp2
        go_ret2
        exact ⟨rfl, rfl⟩
      · by_cases h4 : 255 < kz
        · clear h
          go_enter Tryd.func42, Tryd.ntmps42
          go_wp2
          go_ret2
          exact ⟨rfl, rfl⟩
        · have h5 : 4085 < (n : Int) := by omega
          clear h
          go_enter Tryd.func42, Tryd.ntmps42
          go_wp2
          go_ret2
          exact ⟨rfl, rfl⟩

/-- The reference's put: a number behind bytes that the caller owns. -/
theorem put_any (base : Nat) (A : Option Addr) (m c n size : Nat) (l : List UInt8) (w : World) (ho : w.ownsRow base 5 1 (.slice A m c) m (bs l)) (hb : base ≤ w.heap.size) (h1 : 1 ≤ size) (h8 : size ≤ 8) (hn : n ≤ 9223372036854775807) (hk : n < 256 ^ size) (hm : m ≤ 1099511627776) :
    Calls Tryd.prog 64 #[.slice A m c, .int .i64 n, .int .i64 size] w fun e w' => ∃ A' c', e = .returned (.slice A' (m + size) c') ∧ w'.ownsRow base 5 1 (.slice A' (m + size) c') (m + size) (bs (l ++ le size n)) ∧ Below base w w' := by
  have Hinfo := Lib.hid info_u8
  have Ho := Lib.hid ho
  have CN : Hid (∀ wx, Calls Tryd.prog 66 #[.int .i64 n, .int .i64 size] wx fun e w' => ∃ v, e = .returned (.tuple #[v, .int .i64 0]) ∧ w'.ownsRow wx.heap.size 5 1 v size (bs (le size n)) ∧ Below wx.heap.size wx w') := Lib.hid (fun wx => rnumber_ok n size wx h1 h8 hn hk)
  have Hr : Hid (m + size ≤ 140737488355328) := Lib.hid (by omega)
  have Hb := Lib.hid hb
  clear ho hn hk hb hm
  go_enter Tryd.func64, Tryd.ntmps64
  go_wp2_with (first
    | (go_at_call 66; with_reducible refine (CN.out _).mono ?_; rintro e w2 ⟨x, rfl, ho, hb⟩; obtain ⟨Ax, cx, hxe, hxb⟩ := own_bytes ho; subst hxe; have HX := Lib.hid hxb; have H2 := Lib.hid hb; have Ho2 := Lib.hid (own_below Ho.out hb); have Hb2 : Hid (base ≤ w2.heap.size) := Lib.hid (Nat.le_trans Hb.out hb.size); clear ho hb hxb)
    | (at_builtin; refine wpList_append_bytes rfl _ _ 31 rfl base 5 (.int .u8 0) Tryd.underlying31 Hinfo.out rfl (.slice A m c) m (bs l) rfl Ho2.out Ax size cx (le size n) rfl HX.out Hr.out Hb2.out ?_; intro va wa ho hg hla; have Oa : Hid (wa.ownsRow base 5 1 va (m + size) (bs (l ++ le size n))) := Lib.hid (by rw [bs_append]; exact ho); have Ga : Hid (Below base w wa) := Lib.hid ((H2.out.mono Hb.out).grown hg Hb2.out (fun i hi => (Ho2.out.lt i hi).1)); clear ho hg hla))
  go_ret
  obtain ⟨A', c', e, _⟩ := own_bytes Oa.out
  subst e
  exact ⟨A', c', rfl, Oa.out, Ga.out⟩

end Go.Proofs.YteljopjaolegaaaDoor
