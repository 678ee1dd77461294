/-
  CONTRACTS: page.Open: what is read in a page, and why it is none.
-/
import Derived.Test.YteljopjaolegaaaDoorPageC
namespace Go.Proofs.YteljopjaolegaaaDoor
open Go.RowKit
set_option maxRecDepth 100000
set_option linter.unusedVariables false

theorem unle_small4 {l : List UInt8} {k : Nat} (h : l.length ≤ k) (hk : k ≤ 7) : unle l ≤ 9223372036854775807 := unle_small (by omega)

theorem pread_any (A : Option Addr) (n c a k : Nat) (l : List UInt8) (w : World) (hb : Bs w A n l) (hc : n ≤ c) (h1 : 1 ≤ k) (h4 : k ≤ 4) (hk : a + k ≤ n) :
    Calls Tryd.prog 67 #[.slice A n c, .int .i64 a, .int .i64 k] w fun e w' => e = .returned (.int .i64 (unle ((l.drop a).take k))) ∧ w = w' := by
  have hs : unle ((l.drop a).take k) ≤ 9223372036854775807 := unle_small4 (k := k) (by simp; omega) (by omega)
  have C := Lib.hid (read_ok A n c a k l w hb hc h1 (by omega) hk)
  obtain ⟨u, hu⟩ : ∃ u, u = unle ((l.drop a).take k) := ⟨_, rfl⟩
  have C2 : Hid (Calls Tryd.prog 47 #[.slice A n c, .int .i64 a, .int .i64 k] w fun e w' => e = .returned (.tuple #[.int .i64 u, .int .i64 0]) ∧ w = w') := Lib.hid (by
    have := C.out; rw [readRes_ok hs, ← hu] at this; exact this)
  rw [← hu]
  clear hs C hu hb
  go_enter Tryd.func67, Tryd.ntmps67
  go_wp2_with (go_at_call 47; with_reducible refine C2.out.mono ?_; rintro e w' ⟨rfl, rfl⟩)
  go_ret
  exact ⟨rfl, rfl⟩

/-- Why bytes are no page of that number: 0, if they are one. -/
def openCode (l : List UInt8) (number : Int) : Int :=
  if l.length ≠ 4096 then 122 else if unle (l.take 4) ≠ (Crc.sum (l.drop 4)).toNat then 120 else if ((unle ((l.drop 4).take 4) : Nat) : Int) ≠ number then 121
  else if l.getD 8 0 = 0 ∨ 4085 < unle ((l.drop 9).take 2) then 122 else if (l.drop (11 + unle ((l.drop 9).take 2))).all (· == 0) then 0 else 122
def openKind (l : List UInt8) : UInt8 := l.getD 8 0
def openLen (l : List UInt8) : Nat := unle ((l.drop 9).take 2)
def openBody (l : List UInt8) : List UInt8 := (l.drop 11).take (openLen l)

theorem open_len (A : Option Addr) (n c : Nat) (l : List UInt8) (number : Int) (w : World) (hn : ¬ n = 4096) :
    Calls Tryd.prog 44 #[.slice A n c, .int .i64 number] w fun e w' => e = .returned (.tuple #[.int .i64 0, .slice none 0 0, .int .i64 122]) ∧ w = w' := by
  have h1 : ¬ (n : Int) = 4096 := by omega
  have h2 : ((n : Int) == 4096) = false := by simp; omega
  have h3 : ((n : Int) != 4096) = true := by simp; omega
  clear hn
  go_enter Tryd.func44, Tryd.ntmps44
  go_wp2
  go_ret3
  exact ⟨rfl, rfl⟩

/-- A callee that reads alone, met behind draws. -/
theorem quiet_same {P : Program} {f : FuncId} {args : Array Value} {w : World} {n : Nat} {v : Value} (h : Calls P f args (w.drewN n) fun e w' => e = .returned v ∧ w.drewN n = w') : Calls P f args (w.drewN n) fun e w'' => e = .returned v ∧ ∃ m, w'' = w.drewN m :=
  h.mono fun _ _ ⟨he, hm⟩ => ⟨he, n, hm.symm⟩

set_option maxHeartbeats 1000000 in
theorem open_sum (ad : Addr) (c : Nat) (number : Int) (w : World) (hc : 4096 ≤ c) (s : BitVec 32) (u0 : Nat)
    (C0 : Hid (∀ wx, wx.heap = w.heap → Calls Tryd.prog 67 #[.slice (some ad) 4096 c, .int .i64 0, .int .i64 4] wx fun e w' => e = .returned (.int .i64 u0) ∧ wx = w'))
    (CS : Hid (∀ wx, wx.heap = w.heap → Calls Tryd.prog 62 #[.slice (some ⟨ad.block, ad.off + 4, none⟩) 4092 (c - 4)] wx fun e w' => e = .returned (.int .i64 (ui s)) ∧ wx = w'))
    (h0 : ((u0 : Int) != ui s) = true) :
    Calls Tryd.prog 44 #[.slice (some ad) 4096 c, .int .i64 number] w fun e w' => e = .returned (.tuple #[.int .i64 0, .slice none 0 0, .int .i64 120]) ∧ Below w.heap.size w w' := by
  have hci : (4096 : Int) ≤ (c : Int) := by omega
  clear hc
  go_enter Tryd.func44, Tryd.ntmps44
  go_wp2_with fail
  go_quiet (first | (go_at_call 67; exact quiet_same (C0.out _ rfl)) | (go_at_call 62; exact quiet_same (CS.out _ rfl)))
  go_wp2
  go_ret3
  exact ⟨rfl, below_drewN (Below.refl _ _) _⟩

set_option maxHeartbeats 1000000 in
theorem open_place (ad : Addr) (c : Nat) (number : Int) (w : World) (hc : 4096 ≤ c) (s : BitVec 32) (u4 : Nat)
    (C0 : Hid (∀ wx, wx.heap = w.heap → Calls Tryd.prog 67 #[.slice (some ad) 4096 c, .int .i64 0, .int .i64 4] wx fun e w' => e = .returned (.int .i64 (ui s)) ∧ wx = w'))
    (CS : Hid (∀ wx, wx.heap = w.heap → Calls Tryd.prog 62 #[.slice (some ⟨ad.block, ad.off + 4, none⟩) 4092 (c - 4)] wx fun e w' => e = .returned (.int .i64 (ui s)) ∧ wx = w'))
    (C4 : Hid (∀ wx, wx.heap = w.heap → Calls Tryd.prog 67 #[.slice (some ad) 4096 c, .int .i64 4, .int .i64 4] wx fun e w' => e = .returned (.int .i64 u4) ∧ wx = w'))
    (h4 : ((u4 : Int) != number) = true) :
    Calls Tryd.prog 44 #[.slice (some ad) 4096 c, .int .i64 number] w fun e w' => e = .returned (.tuple #[.int .i64 0, .slice none 0 0, .int .i64 121]) ∧ Below w.heap.size w w' := by
  have hci : (4096 : Int) ≤ (c : Int) := by omega
  have hss : (ui s != ui s) = false := by simp
  clear hc
  go_enter Tryd.func44, Tryd.ntmps44
  go_wp2_with fail
  go_quiet (first | (go_at_call 67; exact quiet_same (C0.out _ rfl)) | (go_at_call 62; exact quiet_same (CS.out _ rfl)))
  go_wp2_with (go_at_call 67; refine (C4.out (w.drewN nq) rfl).mono ?_; rintro e w' ⟨rfl, rfl⟩)
  go_ret3
  exact ⟨rfl, below_drewN (Below.refl _ _) _⟩

set_option maxHeartbeats 1000000 in
theorem open_form (ad : Addr) (c : Nat) (number : Int) (w : World) (hc : 4096 ≤ c) (s : BitVec 32) (u9 : Nat) (kb : UInt8)
    (C0 : Hid (∀ wx, wx.heap = w.heap → Calls Tryd.prog 67 #[.slice (some ad) 4096 c, .int .i64 0, .int .i64 4] wx fun e w' => e = .returned (.int .i64 (ui s)) ∧ wx = w'))
    (CS : Hid (∀ wx, wx.heap = w.heap → Calls Tryd.prog 62 #[.slice (some ⟨ad.block, ad.off + 4, none⟩) 4092 (c - 4)] wx fun e w' => e = .returned (.int .i64 (ui s)) ∧ wx = w'))
    (C4 : Hid (∀ wx, wx.heap = w.heap → Calls Tryd.prog 67 #[.slice (some ad) 4096 c, .int .i64 4, .int .i64 4] wx fun e w' => e = .returned (.int .i64 number) ∧ wx = w'))
    (C9 : Hid (∀ wx, wx.heap = w.heap → Calls Tryd.prog 67 #[.slice (some ad) 4096 c, .int .i64 9, .int .i64 2] wx fun e w' => e = .returned (.int .i64 u9) ∧ wx = w'))
    (hk : w.cell? ⟨ad.block, ad.off + 8, none⟩ = some (.int .u8 (ub kb))) (h : (ub kb == 0) = true) :
    Calls Tryd.prog 44 #[.slice (some ad) 4096 c, .int .i64 number] w fun e w' => e = .returned (.tuple #[.int .i64 0, .slice none 0 0, .int .i64 122]) ∧ Below w.heap.size w w' := by
  have hci : (4096 : Int) ≤ (c : Int) := by omega
  have hss : (ui s != ui s) = false := by simp
  have hnn : (number != number) = false := by simp
  clear hc
  go_enter Tryd.func44, Tryd.ntmps44
  go_wp2_with fail
  go_quiet (first | (go_at_call 67; exact quiet_same (C0.out _ rfl)) | (go_at_call 62; exact quiet_same (CS.out _ rfl)))
  obtain ⟨w2, hw2⟩ : ∃ w2, w2 = w.drewN nq := ⟨_, rfl⟩
  have hh : w2.heap = w.heap := by rw [hw2]; rfl
  have hk2 : w2.cell? ⟨ad.block, ad.off + 8, none⟩ = some (.int .u8 (ub kb)) := by rw [hw2]; exact hk
  have HB2 : Hid (Below w.heap.size w w2) := Lib.hid (by rw [hw2]; exact below_drewN (Below.refl _ _) _)
  rw [← hw2]
  clear hw2 hk
  have Hh := Lib.hid hh
  clear hh
  go_wp2_with (go_at_call 67; refine (C4.out w2 Hh.out).mono ?_; rintro e w' ⟨rfl, rfl⟩)
  go_quiet ((go_at_call 67; exact quiet_same (C9.out _ Hh.out)))
  go_wp2
  go_ret3
  exact ⟨rfl, below_drewN HB2.out _⟩

set_option maxHeartbeats 1000000 in
theorem open_long (ad : Addr) (c : Nat) (number : Int) (w : World) (hc : 4096 ≤ c) (s : BitVec 32) (u9 : Nat) (kb : UInt8)
    (C0 : Hid (∀ wx, wx.heap = w.heap → Calls Tryd.prog 67 #[.slice (some ad) 4096 c, .int .i64 0, .int .i64 4] wx fun e w' => e = .returned (.int .i64 (ui s)) ∧ wx = w'))
    (CS : Hid (∀ wx, wx.heap = w.heap → Calls Tryd.prog 62 #[.slice (some ⟨ad.block, ad.off + 4, none⟩) 4092 (c - 4)] wx fun e w' => e = .returned (.int .i64 (ui s)) ∧ wx = w'))
    (C4 : Hid (∀ wx, wx.heap = w.heap → Calls Tryd.prog 67 #[.slice (some ad) 4096 c, .int .i64 4, .int .i64 4] wx fun e w' => e = .returned (.int .i64 number) ∧ wx = w'))
    (C9 : Hid (∀ wx, wx.heap = w.heap → Calls Tryd.prog 67 #[.slice (some ad) 4096 c, .int .i64 9, .int .i64 2] wx fun e w' => e = .returned (.int .i64 u9) ∧ wx = w'))
    (hk : w.cell? ⟨ad.block, ad.off + 8, none⟩ = some (.int .u8 (ub kb))) (h : (ub kb == 0) = false) (h9 : (4085 : Int) < (u9 : Int)) :
    Calls Tryd.prog 44 #[.slice (some ad) 4096 c, .int .i64 number] w fun e w' => e = .returned (.tuple #[.int .i64 0, .slice none 0 0, .int .i64 122]) ∧ Below w.heap.size w w' := by
  have hci : (4096 : Int) ≤ (c : Int) := by omega
  have hss : (ui s != ui s) = false := by simp
  have hnn : (number != number) = false := by simp
  clear hc
  go_enter Tryd.func44, Tryd.ntmps44
  go_wp2_with fail
  go_quiet (first | (go_at_call 67; exact quiet_same (C0.out _ rfl)) | (go_at_call 62; exact quiet_same (CS.out _ rfl)))
  obtain ⟨w2, hw2⟩ : ∃ w2, w2 = w.drewN nq := ⟨_, rfl⟩
  have hh : w2.heap = w.heap := by rw [hw2]; rfl
  have hk2 : w2.cell? ⟨ad.block, ad.off + 8, none⟩ = some (.int .u8 (ub kb)) := by rw [hw2]; exact hk
  have HB2 : Hid (Below w.heap.size w w2) := Lib.hid (by rw [hw2]; exact below_drewN (Below.refl _ _) _)
  rw [← hw2]
  clear hw2 hk
  have Hh := Lib.hid hh
  clear hh
  go_wp2_with (go_at_call 67; refine (C4.out w2 Hh.out).mono ?_; rintro e w' ⟨rfl, rfl⟩)
  go_quiet ((go_at_call 67; exact quiet_same (C9.out _ Hh.out)))
  go_wp2
  go_ret3
  exact ⟨rfl, below_drewN HB2.out _⟩

end Go.Proofs.YteljopjaolegaaaDoor
