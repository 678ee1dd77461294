/-
  CONTRACTS: package journal: a number laid into a head, the sum that is checked, a record's frame.
-/
import Derived.Test.YtaaimonnpmfnlaaDoorJour
import Derived.Test.YtaaimonnpmfnlaaDoorStep
import Derived.Test.YtaaimonnpmfnlaaDoorSumD
import Derived.Test.YtaaimonnpmfnlaaDoorSumA
import Derived.Test.YtaaimonnpmfnlaaDoorOwnedB
namespace Go.Proofs.YtaaimonnpmfnlaaDoor
open Go.RowKit
set_option maxRecDepth 100000
set_option linter.unusedVariables false

set_option maxHeartbeats 1000000 in
theorem jput_any (g at0 n size m c : Nat) (L : List UInt8) (rest : List Value) (w : World) (hL : L.length = m) (hc : m ≤ c) (hg : w.heap[g]? = some (.cells (bs L ++ rest).toArray 5 (0, 0))) (h1 : 1 ≤ size) (h8 : size ≤ 8) (hn : n ≤ 9223372036854775807) (hk : n < 256 ^ size) (hat : at0 + size ≤ m) (hm : m ≤ 281474976710656) :
    Calls Tryd.prog 35 #[.slice (some ⟨g, 0, none⟩) m c, .int .i64 at0, .int .i64 n, .int .i64 size] w fun e w' => e = .returned (.tuple #[]) ∧ w'.heap[g]? = some (.cells (bs (splice L at0 (le size n)) ++ rest).toArray 5 (0, 0)) ∧ w.grownBy w' (some g) := by
  have Hg := Lib.hid hg
  have Hsz := Lib.hid size_u8
  have CN : Hid (∀ wx, Calls Tryd.prog 56 #[.int .i64 n, .int .i64 size] wx fun e w' => ∃ v, e = .returned (.tuple #[v, .int .i64 0]) ∧ w'.ownsRow wx.heap.size 5 1 v size (bs (le size n)) ∧ Below wx.heap.size wx w') := Lib.hid (fun wx => number_ok n size wx h1 h8 hn hk)
  have Hfit : Hid (at0 + size ≤ L.length) := Lib.hid (by omega)
  have Hmin : Hid (size = Nat.min size (m - at0)) := Lib.hid (by show size = min size (m - at0); omega)
  have hai : (at0 : Int) ≤ (m : Int) := by omega
  have hmc : (m : Int) ≤ (c : Int) := by omega
  have hlt : ¬ at0 = c := by omega
  clear hg hn hk hL hc hat
  go_enter Tryd.func35, Tryd.ntmps35
  go_wp2_with (first
    | (go_at_call 56; (with_reducible refine (CN.out _).mono ?_); rintro e w2 ⟨x, rfl, ho, hb⟩; obtain ⟨Ax, cx, hxe, hxb⟩ := own_bytes ho; subst hxe; have HX := Lib.hid hxb; have H2 := Lib.hid hb; have Hg2 : Hid (w2.heap[g]? = some (.cells (bs L ++ rest).toArray 5 (0, 0))) := Lib.hid (by rw [hb.block g (lt_block Hg.out)]; exact Hg.out); clear ho hb hxb)
    | (refine wpList_copy_rest rfl _ _ 22 22 rfl 5 Tryd.underlying22 Hsz.out (some ⟨g, at0, none⟩) (m - at0) (c - at0) Ax size cx rfl rfl g at0 L rest 5 Hg2.out (le size n) HX.out size Hmin.out (fun _ => rfl) Hfit.out ?_; intro w3 hw3 hg3))
  go_end0
  refine ⟨rfl, ?_, ?_⟩
  · have := hw3.out
    rw [List.take_of_length_le (by rw [le_length]; exact Nat.le_refl _)] at this
    exact this
  · exact ⟨hg3.os.trans H2.out.os, hg3.tape.trans H2.out.tape, hg3.output.trans H2.out.output, Nat.le_trans H2.out.size hg3.size, fun k hk hne => (hg3.block k (Nat.lt_of_lt_of_le hk H2.out.size) hne).trans (H2.out.block k hk)⟩

theorem checked_any (A : Option Addr) (m c : Nat) (l : List UInt8) (w : World) (hN : Nib w) (hb : Bs w A m l) (h20 : 20 ≤ m) (hc : m ≤ c) :
    Calls Tryd.prog 36 #[.slice A m c] w fun e w' => e = .returned (.int .i64 (ui (Crc.sum (l.take 16 ++ l.drop 20)))) ∧ ∃ n, w' = w.drewN n := by
  obtain ⟨ad, _, rfl, _, _⟩ := hb.get (k := 0) (by omega)
  obtain ⟨s1, h1⟩ : ∃ s, s = Crc.sum (l.take 16) := ⟨_, rfl⟩
  have C1 : Hid (∀ wx : World, wx.heap = w.heap → Calls Tryd.prog 58 #[.slice (some ad) 16 c] wx fun e w' => e = .returned (.int .i64 (ui s1)) ∧ wx = w') := Lib.hid (fun wx e => by
    rw [h1]; exact sum_any _ _ _ _ _ ((hb.heap e).head 16 (by omega)) (hN.heap e))
  have C2 : Hid (∀ wx : World, wx.heap = w.heap → Calls Tryd.prog 57 #[.int .i64 (ui s1), .slice (some ⟨ad.block, ad.off + 20, none⟩) (m - 20) (c - 20)] wx fun e w' => e = .returned (.tuple #[.int .i64 (ui (Crc.more s1 (l.drop 20))), .int .i64 0]) ∧ wx = w') := Lib.hid (fun wx e => by
    have h2 := (hb.heap e).sub 20 (m - 20) (by omega)
    rw [List.take_of_length_le (by rw [List.length_drop, hb.len]; exact Nat.le_refl _)] at h2
    exact more_ok s1 _ _ _ _ _ h2 (hN.heap e))
  have C3 : Hid (c = 20 → ∀ wx : World, wx.heap = w.heap → Calls Tryd.prog 57 #[.int .i64 (ui s1), .slice (some ad) 0 0] wx fun e w' => e = .returned (.tuple #[.int .i64 (ui (Crc.more s1 (l.drop 20))), .int .i64 0]) ∧ wx = w') := Lib.hid (fun e wx eh => by
    have h3 : l.drop 20 = [] := List.drop_of_length_le (by rw [hb.len]; omega)
    rw [h3]
    exact more_ok s1 _ _ _ [] _ (Bs.nil _ _) (hN.heap eh))
  have e : Crc.sum (l.take 16 ++ l.drop 20) = Crc.more s1 (l.drop 20) := by rw [Crc.sum_append, h1]
  rw [e]
  have hmi : (20 : Int) ≤ (m : Int) := by omega
  have hci : (m : Int) ≤ (c : Int) := by omega
  have hc20 : (20 : Int) ≤ (c : Int) := by omega
  have hc16 : (16 : Int) ≤ (c : Int) := by omega
  clear hN hb h1 e
  by_cases h : c = 20
  · have C4 := Lib.hid (C3.out h)
    have hcm : m = 20 := by omega
    subst h
    subst hcm
    clear C3 C2 h20 hc hmi hci hc20 hc16
    go_enter Tryd.func36, Tryd.ntmps36
    go_wp2_with fail
    go_quiet (first
      | (go_at_call 58; exact quiet_same2 (C1.out _ rfl))
      | (go_at_call 57; exact quiet_same2 (C4.out _ rfl)))
    go_wp2
    go_ret
    exact ⟨rfl, _, rfl⟩
  · clear C3 h20 hc
    go_enter Tryd.func36, Tryd.ntmps36
    go_wp2_with fail
    go_quiet (first
      | (go_at_call 58; exact quiet_same2 (C1.out _ rfl))
      | (go_at_call 57; exact quiet_same2 (C2.out _ rfl)))
    go_wp2
    go_ret
    exact ⟨rfl, _, rfl⟩

end Go.Proofs.YtaaimonnpmfnlaaDoor
