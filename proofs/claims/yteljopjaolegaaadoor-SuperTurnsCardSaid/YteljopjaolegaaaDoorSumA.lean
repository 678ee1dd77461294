/-
  CONTRACTS: the sum of bytes, of the program and of the reference.
-/
import Derived.Test.YteljopjaolegaaaDoorWords
import Derived.Test.YteljopjaolegaaaDoorProg
namespace Go.Proofs.YteljopjaolegaaaDoor
open Go.RowKit
set_option maxRecDepth 100000

/-- Is it a sum? -/
def MayB (s : Int) : Bool := decide (0 ≤ s ∧ s ≤ 4294967295)
theorem MayB.yes {s : Int} (h : MayB s = true) : ∃ b, s = ui b := by
  unfold MayB at h; simp at h; exact ui_of s h.1 h.2
theorem mayB_ui (b : BitVec 32) : MayB (ui b) = true := by
  unfold MayB; simp [ui_lo, ui_hi]
theorem MayB.no {s : Int} (h : MayB s = false) : ¬ (0 ≤ s ∧ s ≤ 4294967295) := by
  unfold MayB at h; simpa using h

theorem may_any (s : Int) (w : World) :
    Calls Tryd.prog 87 #[.int .i64 s] w fun e w' => e = .returned (.bool (MayB s)) ∧ w = w' := by
  by_cases h0 : 0 ≤ s
  · by_cases h1 : s ≤ 4294967295
    · have hm : MayB s = true := by unfold MayB; simp [h0, h1]
      rw [hm]
      clear hm
      go_enter Tryd.func87, Tryd.ntmps87
      go_wp2
      go_ret
      exact ⟨rfl, rfl⟩
    · have hm : MayB s = false := by unfold MayB; simp [h1]
      rw [hm]
      clear hm
      go_enter Tryd.func87, Tryd.ntmps87
      go_wp2
      go_ret
      exact ⟨rfl, rfl⟩
  · have hm : MayB s = false := by unfold MayB; simp [h0]
    rw [hm]
    clear hm
    go_enter Tryd.func87, Tryd.ntmps87
    go_wp2
    go_ret
    exact ⟨rfl, rfl⟩

theorem rmay_any (s : Int) (w : World) :
    Calls Tryd.prog 88 #[.int .i64 s] w fun e w' => e = .returned (.bool (MayB s)) ∧ w = w' := by
  by_cases h0 : 0 ≤ s
  · by_cases h1 : s ≤ 4294967295
    · have hm : MayB s = true := by unfold MayB; simp [h0, h1]
      rw [hm]
      clear hm
      go_enter Tryd.func88, Tryd.ntmps88
      go_wp2
      go_ret
      exact ⟨rfl, rfl⟩
    · have hm : MayB s = false := by unfold MayB; simp [h1]
      rw [hm]
      clear hm
      go_enter Tryd.func88, Tryd.ntmps88
      go_wp2
      go_ret
      exact ⟨rfl, rfl⟩
  · have hm : MayB s = false := by unfold MayB; simp [h0]
    rw [hm]
    clear hm
    go_enter Tryd.func88, Tryd.ntmps88
    go_wp2
    go_ret
    exact ⟨rfl, rfl⟩

/-- More, at a sum. -/
theorem more_ok (s : BitVec 32) (A : Option Addr) (n c : Nat) (l : List UInt8) (w : World) (hb : Bs w A n l) (hN : Nib w) :
    Calls Tryd.prog 81 #[.int .i64 (ui s), .slice A n c] w fun e w' =>
      e = .returned (.tuple #[.int .i64 (ui (Crc.more s l)), .int .i64 0]) ∧ w = w' := by
  have hs0 := ui_lo s
  have hs1 := ui_hi s
  have hn := hb.max
  have hm := mayB_ui s
  have HN := fun a => hN.at a
  have hl := Lib.hid hb.len
  have Hb := Lib.hid hb
  clear hb hN
  go_enter Tryd.func81, Tryd.ntmps81
  go_wp2_with (go_at_call 87; refine (may_any _ _).mono ?_; rintro e w' ⟨rfl, rfl⟩)
  go_loop [6, 17] (fun r i => ∃ k : Nat, k ≤ n ∧ i = .int .i64 k ∧ r = .int .u32 (ui (Crc.crc (~~~ s) (l.take k)))) (fun _ i => n - (intOf i).toNat)
  case atStart => exact ⟨0, by omega, rfl, by simp [Crc.crc]⟩
  case round =>
    obtain ⟨k, hk, rfl, rfl⟩ := hrel
    by_cases hlt : k < n
    · obtain ⟨ad, x, rfl, hx, hc⟩ := Hb.out.get hlt
      have hstep := Lib.hid (crc_snoc (r := ~~~ s) hx)
      have hx0 := ub_lo x
      have hx1 := ub_hi x
      clear hx
      go_wp2
      go_round
      case rel => exact ⟨k + 1, by omega, by go_num, by rw [hstep.out]⟩
      case measure => simp [intOf]; omega
    · have e : k = n := by omega
      have hlen := hl.out
      go_wp2
      go_ret2
      refine ⟨?_, rfl⟩
      rw [List.take_of_length_le (by omega)]
      rfl

/-- More, at what is no sum. -/
theorem more_bad (s : Int) (A : Option Addr) (n c : Nat) (w : World) (h : MayB s = false) :
    Calls Tryd.prog 81 #[.int .i64 s, .slice A n c] w fun e w' => e = .returned (.tuple #[.int .i64 0, .int .i64 1]) ∧ w = w' := by
  go_enter Tryd.func81, Tryd.ntmps81
  go_wp2_with (go_at_call 87; refine (may_any _ _).mono ?_; rintro e w' ⟨rfl, rfl⟩)
  go_ret2
  exact ⟨rfl, rfl⟩

/-- Sum. -/
theorem sum_any (A : Option Addr) (n c : Nat) (l : List UInt8) (w : World) (hb : Bs w A n l) (hN : Nib w) :
    Calls Tryd.prog 62 #[.slice A n c] w fun e w' => e = .returned (.int .i64 (ui (Crc.sum l))) ∧ w = w' := by
  have Hb := Lib.hid hb
  have HN := Lib.hid hN
  clear hb hN
  go_enter Tryd.func62, Tryd.ntmps62
  go_wp2_with (go_at_call 81; refine (more_ok 0#32 _ _ _ l _ Hb.out HN.out).mono ?_; rintro e w' ⟨rfl, rfl⟩)
  go_ret
  exact ⟨rfl, rfl⟩

theorem turn_odd (b : BitVec 32) (h : (ui b % 2 == 1) = true) : bits .xor .u32 (ui b / (2 : Int)) 3988292384 = ui (Crc.turn b) := by
  have h2 : b.getLsbD 0 = true := by
    unfold ui at h
    simp at h
    rw [BitVec.getLsbD, Nat.testBit_zero]
    simp
    omega
  have e : (3988292384 : Int) = ui Crc.poly := by decide
  rw [e, ui_shr1, ui_xor, Crc.turn, if_pos h2]
theorem turn_even (b : BitVec 32) (h : (ui b % 2 == 1) = false) : ui b / (2 : Int) = ui (Crc.turn b) := by
  have h2 : b.getLsbD 0 = false := by
    unfold ui at h
    simp at h
    rw [BitVec.getLsbD, Nat.testBit_zero]
    simp
    omega
  rw [ui_shr1, Crc.turn, h2]
  rfl

/-- The reference's turns. -/
theorem turns_any (r0 : BitVec 32) (n : Nat) (w : World) (hn : n ≤ 100) :
    Calls Tryd.prog 89 #[.int .u32 (ui r0), .int .i64 n] w fun e w' => e = .returned (.int .u32 (ui (Crc.turns n r0))) ∧ w = w' := by
  go_enter Tryd.func89, Tryd.ntmps89
  go_wp2
  go_loop [0, 5] (fun r i => ∃ k : Nat, ∃ b : BitVec 32, k ≤ n ∧ i = .int .i64 k ∧ r = .int .u32 (ui b) ∧ Crc.turns (n - k) b = Crc.turns n r0) (fun _ i => n - (intOf i).toNat)
  case atStart => exact ⟨0, r0, by omega, rfl, rfl, rfl⟩
  case round =>
    obtain ⟨k, b, hk, rfl, rfl, ht⟩ := hrel
    have Ht := Lib.hid ht
    clear ht
    have hb0 := ui_lo b
    have hb1 := ui_hi b
    by_cases hlt : k < n
    · have hs : Crc.turns (n - (k + 1)) (Crc.turn b) = Crc.turns n r0 := by
        rw [← Ht.out, show n - k = (n - (k + 1)) + 1 from by omega]; rfl
      have Hs := Lib.hid hs
      clear hs
      obtain ⟨odd, hodd⟩ : ∃ odd, (ui b % 2 == 1) = odd := ⟨_, rfl⟩
      cases odd with
      | true =>
        have Hx := Lib.hid (turn_odd b hodd)
        go_wp2
        go_round
        case rel => exact ⟨k + 1, Crc.turn b, by omega, by go_num, by first | rw [Hx.out] | rw [← Hx.out, ui_shr1], Hs.out⟩
        case measure => simp [intOf]; omega
      | false =>
        have Hx := Lib.hid (turn_even b hodd)
        go_wp2
        go_round
        case rel => exact ⟨k + 1, Crc.turn b, by omega, by go_num, by first | rw [Hx.out] | rw [← Hx.out, ui_shr1], Hs.out⟩
        case measure => simp [intOf]; omega
    · have e : n - k = 0 := by omega
      have ht := Ht.out
      rw [e] at ht
      have Hf : Hid (ui b = ui (Crc.turns n r0)) := by rw [← ht]; rfl
      clear e ht
      go_wp2
      go_ret
      exact ⟨by rw [← Hf.out]; rfl, rfl⟩

theorem crc_snoc8 {r : BitVec 32} {l : List UInt8} {k : Nat} {c : UInt8} (h : l[k]? = some c) :
    Crc.crc r (l.take (k + 1)) = Crc.turns 8 (Crc.crc r (l.take k) ^^^ Crc.wide c) := by
  rw [take_snoc h, Crc.crc_append]; rfl

/-- The reference's More, at a sum. -/
theorem rmore_ok (s : BitVec 32) (A : Option Addr) (n c : Nat) (l : List UInt8) (w : World) (hb : Bs w A n l) :
    Calls Tryd.prog 82 #[.int .i64 (ui s), .slice A n c] w fun e w' =>
      e = .returned (.tuple #[.int .i64 (ui (Crc.more s l)), .int .i64 0]) ∧ w = w' := by
  have hs0 := ui_lo s
  have hs1 := ui_hi s
  have hn := hb.max
  have hm := mayB_ui s
  have hl := Lib.hid hb.len
  have Hb := Lib.hid hb
  clear hb
  go_enter Tryd.func82, Tryd.ntmps82
  go_wp2_with (go_at_call 88; refine (rmay_any _ _).mono ?_; rintro e w' ⟨rfl, rfl⟩)
  go_loop [7, 8] (fun r i => ∃ k : Nat, k ≤ n ∧ i = .int .i64 k ∧ r = .int .u32 (ui (Crc.crc (~~~ s) (l.take k)))) (fun _ i => n - (intOf i).toNat)
  case atStart => exact ⟨0, by omega, rfl, by simp [Crc.crc]⟩
  case round =>
    obtain ⟨k, hk, rfl, rfl⟩ := hrel
    by_cases hlt : k < n
    · obtain ⟨ad, x, rfl, hx, hc⟩ := Hb.out.get hlt
      have hstep := Lib.hid (crc_snoc8 (r := ~~~ s) hx)
      have hx0 := ub_lo x
      have hx1 := ub_hi x
      clear hx
      go_wp2_with (go_at_call 89; refine (turns_any _ 8 _ (by omega)).mono ?_; rintro e w' ⟨rfl, rfl⟩)
      go_round
      case rel => exact ⟨k + 1, by omega, by go_num, by rw [hstep.out]⟩
      case measure => simp [intOf]; omega
    · have e : k = n := by omega
      have hlen := hl.out
      go_wp2
      go_ret2
      refine ⟨?_, rfl⟩
      rw [List.take_of_length_le (by omega)]
      rfl

theorem rmore_bad (s : Int) (A : Option Addr) (n c : Nat) (w : World) (h : MayB s = false) :
    Calls Tryd.prog 82 #[.int .i64 s, .slice A n c] w fun e w' => e = .returned (.tuple #[.int .i64 0, .int .i64 1]) ∧ w = w' := by
  go_enter Tryd.func82, Tryd.ntmps82
  go_wp2_with (go_at_call 88; refine (rmay_any _ _).mono ?_; rintro e w' ⟨rfl, rfl⟩)
  go_ret2
  exact ⟨rfl, rfl⟩

theorem rsum_any (A : Option Addr) (n c : Nat) (l : List UInt8) (w : World) (hb : Bs w A n l) :
    Calls Tryd.prog 65 #[.slice A n c] w fun e w' => e = .returned (.int .i64 (ui (Crc.sum l))) ∧ w = w' := by
  have Hb := Lib.hid hb
  clear hb
  go_enter Tryd.func65, Tryd.ntmps65
  go_wp2_with (go_at_call 82; refine (rmore_ok 0#32 _ _ _ l _ Hb.out).mono ?_; rintro e w' ⟨rfl, rfl⟩)
  go_ret
  exact ⟨rfl, rfl⟩

end Go.Proofs.YteljopjaolegaaaDoor
