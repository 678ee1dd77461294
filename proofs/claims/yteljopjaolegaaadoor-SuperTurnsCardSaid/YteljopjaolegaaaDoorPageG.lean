/-
  CONTRACTS: the reference's Open.
-/
import Derived.Test.YteljopjaolegaaaDoorPageF
import Derived.Test.YteljopjaolegaaaDoorStep
namespace Go.Proofs.YteljopjaolegaaaDoor
open Go.RowKit
set_option maxRecDepth 100000
set_option linter.unusedVariables false

theorem ropen_len (A : Option Addr) (n c : Nat) (l : List UInt8) (number : Int) (w : World) (hn : ¬ n = 4096) :
    Calls Tryd.prog 48 #[.slice A n c, .int .i64 number] w fun e w' => e = .returned (.tuple #[.int .i64 0, .slice none 0 0, .int .i64 122]) ∧ w = w' := by
  have h1 : ¬ (n : Int) = 4096 := by omega
  have h2 : ((n : Int) == 4096) = false := by simp; omega
  have h3 : ((n : Int) != 4096) = true := by simp; omega
  clear hn
  go_enter Tryd.func48, Tryd.ntmps48
  go_wp2
  go_ret3
  exact ⟨rfl, rfl⟩

set_option maxHeartbeats 1000000 in
theorem ropen_sum (ad : Addr) (c : Nat) (number : Int) (w : World) (hc : 4096 ≤ c) (s : BitVec 32) (u0 : Nat)
    (CS : Hid (∀ wx : World, wx.heap = w.heap → Calls Tryd.prog 65 #[.slice (some ⟨ad.block, ad.off + 4, none⟩) 4092 (c - 4)] wx fun e w' => e = .returned (.int .i64 (ui s)) ∧ wx = w'))
    (C0 : Hid (∀ wx : World, wx.heap = w.heap → Calls Tryd.prog 49 #[.slice (some ad) 4096 c, .int .i64 0, .int .i64 4] wx fun e w' => e = .returned (.tuple #[.int .i64 u0, .int .i64 0]) ∧ wx = w'))
    (h0 : (ui s != (u0 : Int)) = true) :
    Calls Tryd.prog 48 #[.slice (some ad) 4096 c, .int .i64 number] w fun e w' => e = .returned (.tuple #[.int .i64 0, .slice none 0 0, .int .i64 120]) ∧ Below w.heap.size w w' := by
  have hci : (4096 : Int) ≤ (c : Int) := by omega
  clear hc
  go_enter Tryd.func48, Tryd.ntmps48
  go_wp2_with (first
    | (go_at_call 65; refine (CS.out w rfl).mono ?_; rintro e w' ⟨rfl, rfl⟩)
    | (go_at_call 49; refine (C0.out w rfl).mono ?_; rintro e w' ⟨rfl, rfl⟩))
  go_ret3
  exact ⟨rfl, Below.refl _ _⟩

set_option maxHeartbeats 1000000 in
theorem ropen_place (ad : Addr) (c : Nat) (number : Int) (w : World) (hc : 4096 ≤ c) (s : BitVec 32) (u4 : Nat)
    (CS : Hid (∀ wx : World, wx.heap = w.heap → Calls Tryd.prog 65 #[.slice (some ⟨ad.block, ad.off + 4, none⟩) 4092 (c - 4)] wx fun e w' => e = .returned (.int .i64 (ui s)) ∧ wx = w'))
    (C0 : Hid (∀ wx : World, wx.heap = w.heap → Calls Tryd.prog 49 #[.slice (some ad) 4096 c, .int .i64 0, .int .i64 4] wx fun e w' => e = .returned (.tuple #[.int .i64 (ui s), .int .i64 0]) ∧ wx = w'))
    (C4 : Hid (∀ wx : World, wx.heap = w.heap → Calls Tryd.prog 49 #[.slice (some ad) 4096 c, .int .i64 4, .int .i64 4] wx fun e w' => e = .returned (.tuple #[.int .i64 u4, .int .i64 0]) ∧ wx = w'))
    (h4 : ((u4 : Int) != number) = true) :
    Calls Tryd.prog 48 #[.slice (some ad) 4096 c, .int .i64 number] w fun e w' => e = .returned (.tuple #[.int .i64 0, .slice none 0 0, .int .i64 121]) ∧ Below w.heap.size w w' := by
  have hci : (4096 : Int) ≤ (c : Int) := by omega
  have hss : (ui s != ui s) = false := by simp
  have hnn : (number != number) = false := by simp
  clear hc
  go_enter Tryd.func48, Tryd.ntmps48
  go_wp2_with (first
    | (go_at_call 65; refine (CS.out w rfl).mono ?_; rintro e w' ⟨rfl, rfl⟩)
    | (go_at_call 49; (first | with_reducible refine (C0.out w rfl).mono ?_ | with_reducible refine (C4.out w rfl).mono ?_); rintro e w' ⟨rfl, rfl⟩))
  go_ret3
  exact ⟨rfl, Below.refl _ _⟩

set_option maxHeartbeats 1000000 in
theorem ropen_form (ad : Addr) (c : Nat) (number : Int) (w : World) (hc : 4096 ≤ c) (s : BitVec 32) (u9 : Nat) (kb : UInt8)
    (CS : Hid (∀ wx : World, wx.heap = w.heap → Calls Tryd.prog 65 #[.slice (some ⟨ad.block, ad.off + 4, none⟩) 4092 (c - 4)] wx fun e w' => e = .returned (.int .i64 (ui s)) ∧ wx = w'))
    (C0 : Hid (∀ wx : World, wx.heap = w.heap → Calls Tryd.prog 49 #[.slice (some ad) 4096 c, .int .i64 0, .int .i64 4] wx fun e w' => e = .returned (.tuple #[.int .i64 (ui s), .int .i64 0]) ∧ wx = w'))
    (C4 : Hid (∀ wx : World, wx.heap = w.heap → Calls Tryd.prog 49 #[.slice (some ad) 4096 c, .int .i64 4, .int .i64 4] wx fun e w' => e = .returned (.tuple #[.int .i64 number, .int .i64 0]) ∧ wx = w'))
    (C9 : Hid (∀ wx : World, wx.heap = w.heap → Calls Tryd.prog 49 #[.slice (some ad) 4096 c, .int .i64 9, .int .i64 2] wx fun e w' => e = .returned (.tuple #[.int .i64 u9, .int .i64 0]) ∧ wx = w'))
    (hk : w.cell? ⟨ad.block, ad.off + 8, none⟩ = some (.int .u8 (ub kb))) (h : (ub kb == 0) = true) :
    Calls Tryd.prog 48 #[.slice (some ad) 4096 c, .int .i64 number] w fun e w' => e = .returned (.tuple #[.int .i64 0, .slice none 0 0, .int .i64 122]) ∧ Below w.heap.size w w' := by
  have hci : (4096 : Int) ≤ (c : Int) := by omega
  have hss : (ui s != ui s) = false := by simp
  have hnn : (number != number) = false := by simp
  clear hc
  go_enter Tryd.func48, Tryd.ntmps48
  go_wp2_with (first
    | (go_at_call 65; refine (CS.out w rfl).mono ?_; rintro e w' ⟨rfl, rfl⟩)
    | (go_at_call 49; (first | with_reducible refine (C0.out w rfl).mono ?_ | with_reducible refine (C4.out w rfl).mono ?_ | with_reducible refine (C9.out w rfl).mono ?_); rintro e w' ⟨rfl, rfl⟩))
  go_ret3
  exact ⟨rfl, Below.refl _ _⟩

set_option maxHeartbeats 1000000 in
theorem ropen_long (ad : Addr) (c : Nat) (number : Int) (w : World) (hc : 4096 ≤ c) (s : BitVec 32) (u9 : Nat) (kb : UInt8)
    (CS : Hid (∀ wx : World, wx.heap = w.heap → Calls Tryd.prog 65 #[.slice (some ⟨ad.block, ad.off + 4, none⟩) 4092 (c - 4)] wx fun e w' => e = .returned (.int .i64 (ui s)) ∧ wx = w'))
    (C0 : Hid (∀ wx : World, wx.heap = w.heap → Calls Tryd.prog 49 #[.slice (some ad) 4096 c, .int .i64 0, .int .i64 4] wx fun e w' => e = .returned (.tuple #[.int .i64 (ui s), .int .i64 0]) ∧ wx = w'))
    (C4 : Hid (∀ wx : World, wx.heap = w.heap → Calls Tryd.prog 49 #[.slice (some ad) 4096 c, .int .i64 4, .int .i64 4] wx fun e w' => e = .returned (.tuple #[.int .i64 number, .int .i64 0]) ∧ wx = w'))
    (C9 : Hid (∀ wx : World, wx.heap = w.heap → Calls Tryd.prog 49 #[.slice (some ad) 4096 c, .int .i64 9, .int .i64 2] wx fun e w' => e = .returned (.tuple #[.int .i64 u9, .int .i64 0]) ∧ wx = w'))
    (hk : w.cell? ⟨ad.block, ad.off + 8, none⟩ = some (.int .u8 (ub kb))) (h : (ub kb == 0) = false) (h9 : (4085 : Int) < (u9 : Int)) :
    Calls Tryd.prog 48 #[.slice (some ad) 4096 c, .int .i64 number] w fun e w' => e = .returned (.tuple #[.int .i64 0, .slice none 0 0, .int .i64 122]) ∧ Below w.heap.size w w' := by
  have hci : (4096 : Int) ≤ (c : Int) := by omega
  have hss : (ui s != ui s) = false := by simp
  have hnn : (number != number) = false := by simp
  clear hc
  go_enter Tryd.func48, Tryd.ntmps48
  go_wp2_with (first
    | (go_at_call 65; refine (CS.out w rfl).mono ?_; rintro e w' ⟨rfl, rfl⟩)
    | (go_at_call 49; (first | with_reducible refine (C0.out w rfl).mono ?_ | with_reducible refine (C4.out w rfl).mono ?_ | with_reducible refine (C9.out w rfl).mono ?_); rintro e w' ⟨rfl, rfl⟩))
  go_ret3
  exact ⟨rfl, Below.refl _ _⟩

set_option maxHeartbeats 1000000 in
theorem ropen_spoilt (ad : Addr) (c j0 : Nat) (x : UInt8) (l : List UInt8) (number : Int) (w : World) (hc : 4096 ≤ c) (s : BitVec 32) (u9 : Nat) (kb : UInt8)
    (CS : Hid (∀ wx : World, wx.heap = w.heap → Calls Tryd.prog 65 #[.slice (some ⟨ad.block, ad.off + 4, none⟩) 4092 (c - 4)] wx fun e w' => e = .returned (.int .i64 (ui s)) ∧ wx = w'))
    (C0 : Hid (∀ wx : World, wx.heap = w.heap → Calls Tryd.prog 49 #[.slice (some ad) 4096 c, .int .i64 0, .int .i64 4] wx fun e w' => e = .returned (.tuple #[.int .i64 (ui s), .int .i64 0]) ∧ wx = w'))
    (C4 : Hid (∀ wx : World, wx.heap = w.heap → Calls Tryd.prog 49 #[.slice (some ad) 4096 c, .int .i64 4, .int .i64 4] wx fun e w' => e = .returned (.tuple #[.int .i64 number, .int .i64 0]) ∧ wx = w'))
    (C9 : Hid (∀ wx : World, wx.heap = w.heap → Calls Tryd.prog 49 #[.slice (some ad) 4096 c, .int .i64 9, .int .i64 2] wx fun e w' => e = .returned (.tuple #[.int .i64 u9, .int .i64 0]) ∧ wx = w'))
    (hk : w.cell? ⟨ad.block, ad.off + 8, none⟩ = some (.int .u8 (ub kb))) (h : (ub kb == 0) = false) (h9 : (u9 : Int) ≤ 4085) (hb : ∀ wx : World, wx.heap = w.heap → Bs wx (some ad) 4096 l)
    (hx : l[11 + u9 + j0]? = some x) (hx0 : (ub x == 0) = false) (hz : ∀ t, t < j0 → l[11 + u9 + t]? = some 0) :
    Calls Tryd.prog 48 #[.slice (some ad) 4096 c, .int .i64 number] w fun e w' => e = .returned (.tuple #[.int .i64 0, .slice none 0 0, .int .i64 122]) ∧ Below w.heap.size w w' := by
  have hci : (4096 : Int) ≤ (c : Int) := by omega
  have hss : (ui s != ui s) = false := by simp
  have hnn : (number != number) = false := by simp
  have Hb := Lib.hid hb
  have Hz := Lib.hid hz
  have H9 : Hid (u9 ≤ 4085) := Lib.hid (by omega)
  have Hx := Lib.hid hx
  have Hj : Hid (11 + u9 + j0 < 4096) := Lib.hid (by have := (List.getElem?_eq_some_iff.1 hx).1; have := (hb w rfl).len; omega)
  clear hx
  clear hc hb hz
  go_enter Tryd.func48, Tryd.ntmps48
  go_wp2_with (first
    | (go_at_call 65; refine (CS.out w rfl).mono ?_; rintro e w' ⟨rfl, rfl⟩)
    | (go_at_call 49; (first | with_reducible refine (C0.out w rfl).mono ?_ | with_reducible refine (C4.out w rfl).mono ?_ | with_reducible refine (C9.out w rfl).mono ?_); rintro e w' ⟨rfl, rfl⟩))
  clear C0 CS C4 C9
  go_loopw [14] (fun i wr => ∃ j : Nat, 11 + u9 ≤ j ∧ j ≤ 11 + u9 + j0 ∧ i = .int .i64 (j : Int) ∧ wr = w) (fun i _ => 4096 - (intOf i).toNat)
  case atStart => exact ⟨11 + u9, Nat.le_refl _, by omega, rfl, rfl⟩
  case round =>
    obtain ⟨j, hj1, hj, rfl, rfl⟩ := hrel
    have hcell : ∀ y, l[j]? = some y → wr.cell? (ad.add j) = some (.int .u8 (ub y)) := by
      intro y hy
      obtain ⟨ad', e, hc⟩ := (Hb.out wr rfl).2.2 _ y hy
      cases e
      exact hc
    have hj4 : (j : Int) < 4096 := by have := Hj.out; omega
    by_cases he : j = 11 + u9 + j0
    · have hc := hcell x (by rw [he]; exact Hx.out)
      have hx1 : (ub x != 0) = true := by simp [bne, hx0]
      clear hcell he
      go_wp2_with fail
      go_ret3
      exact ⟨rfl, Below.refl _ _⟩
    · have hc : wr.cell? (ad.add j) = some (.int .u8 0) := hcell 0 (by
        have := Hz.out (j - (11 + u9)) (by omega)
        rw [show 11 + u9 + (j - (11 + u9)) = j by omega] at this; exact this)
      clear hcell
      go_wp2_with fail
      go_roundw
      case rel => exact ⟨j + 1, by omega, by omega, by go_num, trivial⟩
      case measure => have := Hj.out; simp [intOf]; omega

set_option maxHeartbeats 1000000 in
theorem ropen_fine (ad : Addr) (c : Nat) (l : List UInt8) (number : Int) (w : World) (hc : 4096 ≤ c) (s : BitVec 32) (u9 : Nat) (kb : UInt8)
    (CS : Hid (∀ wx : World, wx.heap = w.heap → Calls Tryd.prog 65 #[.slice (some ⟨ad.block, ad.off + 4, none⟩) 4092 (c - 4)] wx fun e w' => e = .returned (.int .i64 (ui s)) ∧ wx = w'))
    (C0 : Hid (∀ wx : World, wx.heap = w.heap → Calls Tryd.prog 49 #[.slice (some ad) 4096 c, .int .i64 0, .int .i64 4] wx fun e w' => e = .returned (.tuple #[.int .i64 (ui s), .int .i64 0]) ∧ wx = w'))
    (C4 : Hid (∀ wx : World, wx.heap = w.heap → Calls Tryd.prog 49 #[.slice (some ad) 4096 c, .int .i64 4, .int .i64 4] wx fun e w' => e = .returned (.tuple #[.int .i64 number, .int .i64 0]) ∧ wx = w'))
    (C9 : Hid (∀ wx : World, wx.heap = w.heap → Calls Tryd.prog 49 #[.slice (some ad) 4096 c, .int .i64 9, .int .i64 2] wx fun e w' => e = .returned (.tuple #[.int .i64 u9, .int .i64 0]) ∧ wx = w'))
    (hk : w.cell? ⟨ad.block, ad.off + 8, none⟩ = some (.int .u8 (ub kb))) (h : (ub kb == 0) = false) (h9 : (u9 : Int) ≤ 4085) (hb : ∀ wx : World, wx.heap = w.heap → Bs wx (some ad) 4096 l)
    (hz : ∀ t, 11 + u9 + t < 4096 → l[11 + u9 + t]? = some 0) :
    Calls Tryd.prog 48 #[.slice (some ad) 4096 c, .int .i64 number] w fun e w' => ∃ v, e = .returned (.tuple #[.int .i64 (ub kb), v, .int .i64 0]) ∧ w'.ownsRow w.heap.size 5 1 v u9 (bs ((l.drop 11).take u9)) ∧ Below w.heap.size w w' := by
  have Hinfo := Lib.hid info_u8
  have HkW := Lib.hid hk
  have hci : (4096 : Int) ≤ (c : Int) := by omega
  have hss : (ui s != ui s) = false := by simp
  have hnn : (number != number) = false := by simp
  have Hb := Lib.hid hb
  have Hz := Lib.hid hz
  have H9 : Hid (u9 ≤ 4085) := Lib.hid (by omega)
  skip
  clear hc hb hz
  go_enter Tryd.func48, Tryd.ntmps48
  go_wp2_with (first
    | (go_at_call 65; refine (CS.out w rfl).mono ?_; rintro e w' ⟨rfl, rfl⟩)
    | (go_at_call 49; (first | with_reducible refine (C0.out w rfl).mono ?_ | with_reducible refine (C4.out w rfl).mono ?_ | with_reducible refine (C9.out w rfl).mono ?_); rintro e w' ⟨rfl, rfl⟩))
  clear C0 CS C4 C9
  go_loopw [14] (fun i wr => ∃ j : Nat, 11 + u9 ≤ j ∧ j ≤ 4096 ∧ i = .int .i64 (j : Int) ∧ wr = w) (fun i _ => 4096 - (intOf i).toNat)
  case atStart => exact ⟨11 + u9, Nat.le_refl _, by omega, rfl, rfl⟩
  case round =>
    obtain ⟨j, hj1, hj, rfl, rfl⟩ := hrel
    have hcell : ∀ y, l[j]? = some y → wr.cell? (ad.add j) = some (.int .u8 (ub y)) := by
      intro y hy
      obtain ⟨ad', e, hc⟩ := (Hb.out wr rfl).2.2 _ y hy
      cases e
      exact hc
    by_cases hj4 : j < 4096
    · have hc : wr.cell? (ad.add j) = some (.int .u8 0) := hcell 0 (by
        have := Hz.out (j - (11 + u9)) (by omega)
        rw [show 11 + u9 + (j - (11 + u9)) = j by omega] at this; exact this)
      clear hcell
      go_wp2_with fail
      go_roundw
      case rel => exact ⟨j + 1, by omega, by omega, by go_num, trivial⟩
      case measure => simp [intOf]; omega
    · have hj5 : ¬ (j : Int) < 4096 := by omega
      have hkr : wr.cell? ⟨ad.block, ad.off + 8, none⟩ = some (.int .u8 (ub kb)) := HkW.out
      have Hsrc : Hid (∀ wx, Below wr.heap.size wr wx → Bs wx (some ⟨ad.block, ad.off + 11, none⟩) u9 ((l.drop 11).take u9)) := Lib.hid (fun wx hx =>
        ((Hb.out wr rfl).sub 11 u9 (by have := H9.out; omega)).below hx)
      have Hr : Hid (0 + u9 ≤ 140737488355328) := Lib.hid (by have := H9.out; omega)
      have hu9 : (0 : Int) ≤ (u9 : Int) := by omega
      obtain ⟨q, hq⟩ : ∃ q, q = 11 + u9 := ⟨_, rfl⟩
      have hq0 : IntKind.i64.wrap (11 + (u9 : Int)) = (q : Int) := by rw [wrapi_i64 _ (by omega) (by have := H9.out; omega)]; omega
      have hq1 : (q : Int) ≤ (c : Int) := by have := H9.out; omega
      have hq2 : (11 : Int) ≤ (q : Int) := by omega
      have hq3 : ¬ c = 11 := by omega
      have hq4 : q - 11 = u9 := by omega
      clear hcell hq
      obtain ⟨B, hB⟩ : ∃ B, B = wr.heap.size := ⟨_, rfl⟩
      have HBr := Lib.hid hB
      have hwk : IntKind.i64.wrap (ub kb) = ub kb := wrapi_i64 _ (ub_lo kb) (by have := ub_hi kb; omega)
      have HK : Hid (∀ wx, Below wr.heap.size wr wx → wx.cell? ⟨ad.block, ad.off + 8, none⟩ = some (.int .u8 (ub kb))) := Lib.hid (fun wx hx => cell_below hx hkr)
      have hka := HK.out _ ((Below.refl wr.heap.size wr).alloc (Nat.le_refl _) (.cells #[] 5))
      clear hB
      go_wp2_with fail
      go_region_law (refine step_append_bytes rfl (.tmp 65) (.tmp 69) 31 rfl B 5 (.int .u8 0) Tryd.underlying31 Hinfo.out rfl (.slice (some ⟨wr.heap.size, 0, none⟩) 0 0) 0 (bs []) rfl (owns_empty 5 (Nat.le_of_eq HBr.out)).drew (some ⟨ad.block, ad.off + 11, none⟩) u9 _ ((l.drop 11).take u9) rfl (Hsrc.out _ ((Below.refl _ _).alloc (Nat.le_refl _) _).drew) Hr.out (Nat.le_trans (Nat.le_of_eq HBr.out) (by simp)) ?_; intro v' w9 hown9 hg9 hl9; have Hown := Lib.hid hown9; have Hg : Hid (Below wr.heap.size wr w9) := Lib.hid (((Below.refl wr.heap.size wr).alloc (Nat.le_refl _) (.cells #[] 5)).drew.grown hg9 (by simp) (fun i hi => by cases hi; exact Nat.le_refl _)); have hk9 := HK.out w9 Hg.out; clear hown9 hg9 hl9)
      all_goals (try go_simp)
      all_goals (try go_wp2)
      all_goals go_ret3
      all_goals (refine ⟨_, rfl, ?_, Hg.out⟩; have := Hown.out; rw [Nat.zero_add, HBr.out] at this; exact this)

theorem rread_small (A : Option Addr) (n c a k : Nat) (l : List UInt8) (w : World) (hb : Bs w A n l) (h1 : 1 ≤ k) (h4 : k ≤ 4) (hk : a + k ≤ n) :
    Calls Tryd.prog 49 #[.slice A n c, .int .i64 a, .int .i64 k] w fun e w' => e = .returned (.tuple #[.int .i64 (unle ((l.drop a).take k)), .int .i64 0]) ∧ w = w' := by
  have hs : unle ((l.drop a).take k) ≤ 9223372036854775807 := unle_small4 (k := k) (by simp; omega) (by omega)
  have := rread_ok A n c a k l w hb h1 (by omega) hk
  rw [readRes_ok hs] at this
  exact this

theorem ropen_any (A : Option Addr) (n c : Nat) (l : List UInt8) (number : Int) (w : World) (hb : Bs w A n l) (hc : n ≤ c) :
    Calls Tryd.prog 48 #[.slice A n c, .int .i64 number] w fun e w' => OpenPost l number w e w' := by
  by_cases hn : n = 4096
  · subst hn
    obtain ⟨ad, _, rfl, _, _⟩ := hb.get (k := 0) (by omega)
    have hl := hb.len
    have hbx : ∀ wx : World, wx.heap = w.heap → Bs wx (some ad) 4096 l := fun wx h => hb.kept fun _ _ a _ v hv => by simpa [World.cell?, h] using hv
    obtain ⟨s, hs⟩ : ∃ s, s = Crc.sum (l.drop 4) := ⟨_, rfl⟩
    obtain ⟨u0, h0⟩ : ∃ u, u = unle (l.take 4) := ⟨_, rfl⟩
    obtain ⟨u4, h4⟩ : ∃ u, u = unle ((l.drop 4).take 4) := ⟨_, rfl⟩
    obtain ⟨u9, h9⟩ : ∃ u, u = unle ((l.drop 9).take 2) := ⟨_, rfl⟩
    have C0 : Hid (∀ wx : World, wx.heap = w.heap → Calls Tryd.prog 49 #[.slice (some ad) 4096 c, .int .i64 0, .int .i64 4] wx fun e w' => e = .returned (.tuple #[.int .i64 u0, .int .i64 0]) ∧ wx = w') := Lib.hid (fun wx h => by
      have := rread_small (some ad) 4096 c 0 4 l wx (hbx wx h) (by omega) (by omega) (by omega)
      rw [List.drop_zero, ← h0] at this; exact this)
    have C4 : Hid (∀ wx : World, wx.heap = w.heap → Calls Tryd.prog 49 #[.slice (some ad) 4096 c, .int .i64 4, .int .i64 4] wx fun e w' => e = .returned (.tuple #[.int .i64 u4, .int .i64 0]) ∧ wx = w') := Lib.hid (fun wx h => by
      have := rread_small (some ad) 4096 c 4 4 l wx (hbx wx h) (by omega) (by omega) (by omega)
      rw [← h4] at this; exact this)
    have C9 : Hid (∀ wx : World, wx.heap = w.heap → Calls Tryd.prog 49 #[.slice (some ad) 4096 c, .int .i64 9, .int .i64 2] wx fun e w' => e = .returned (.tuple #[.int .i64 u9, .int .i64 0]) ∧ wx = w') := Lib.hid (fun wx h => by
      have := rread_small (some ad) 4096 c 9 2 l wx (hbx wx h) (by omega) (by omega) (by omega)
      rw [← h9] at this; exact this)
    have CS : Hid (∀ wx : World, wx.heap = w.heap → Calls Tryd.prog 65 #[.slice (some ⟨ad.block, ad.off + 4, none⟩) 4092 (c - 4)] wx fun e w' => e = .returned (.int .i64 (ui s)) ∧ wx = w') := Lib.hid (fun wx h => by
      have h1 := (hbx wx h).sub 4 4092 (by omega)
      rw [List.take_of_length_le (by rw [List.length_drop, hl]; exact Nat.le_refl _)] at h1
      rw [hs]
      exact rsum_any _ _ _ _ _ h1)
    obtain ⟨kb, hkb⟩ : ∃ kb, l[8]? = some kb := ⟨_, List.getElem?_eq_getElem (by omega)⟩
    have hkd : l.getD 8 0 = kb := by simp [List.getD, hkb]
    have hkc : w.cell? ⟨ad.block, ad.off + 8, none⟩ = some (.int .u8 (ub kb)) := by
      obtain ⟨ad', e, hc8⟩ := hb.2.2 8 kb hkb
      cases e; exact hc8
    have e1 : ¬ l.length ≠ 4096 := by omega
    by_cases hs0 : u0 = s.toNat
    · have e2 : ¬ unle (l.take 4) ≠ (Crc.sum (l.drop 4)).toNat := by rw [← h0, ← hs]; omega
      have C0s := C0
      rw [hs0] at C0s
      by_cases hn4 : (u4 : Int) = number
      · have e3 : ¬ ((unle ((l.drop 4).take 4) : Nat) : Int) ≠ number := by rw [← h4]; omega
        subst hn4
        by_cases hk0 : kb = 0
        · have hcode : openCode l u4 = 122 := by
            rw [openCode, if_neg e1, if_neg e2, if_neg e3, if_pos (.inl (by rw [hkd]; exact hk0))]
          refine (ropen_form ad c u4 w hc s u9 kb CS C0s C4 C9 hkc (by rw [hk0]; rfl)).mono ?_
          rintro e w' ⟨rfl, hb2⟩
          exact ⟨hb2, .inr ⟨by rw [hcode]; decide, by rw [hcode]⟩⟩
        · have hkf : (ub kb == 0) = false := by
            rw [beq_eq_false_iff_ne]; exact fun h => hk0 (ub_inj (by rw [h]; rfl))
          by_cases hu9 : 4085 < u9
          · have hcode : openCode l u4 = 122 := by
              rw [openCode, if_neg e1, if_neg e2, if_neg e3, if_pos (.inr (by rw [← h9]; exact hu9))]
            refine (ropen_long ad c u4 w hc s u9 kb CS C0s C4 C9 hkc hkf (by omega)).mono ?_
            rintro e w' ⟨rfl, hb2⟩
            exact ⟨hb2, .inr ⟨by rw [hcode]; decide, by rw [hcode]⟩⟩
          · have e4 : ¬ (l.getD 8 0 = 0 ∨ 4085 < unle ((l.drop 9).take 2)) := by
              rw [hkd, ← h9]; exact fun h => h.elim hk0 hu9
            by_cases hall : (l.drop (11 + unle ((l.drop 9).take 2))).all (· == 0) = true
            · have hcode : openCode l u4 = 0 := by
                rw [openCode, if_neg e1, if_neg e2, if_neg e3, if_neg e4, if_pos hall]
              rw [← h9, List.all_eq_true] at hall
              refine (ropen_fine ad c l u4 w hc s u9 kb CS C0s C4 C9 hkc hkf (by omega) hbx (fun t ht => ?_)).mono ?_
              · have hlt : 11 + u9 + t < l.length := by omega
                have := hall l[11 + u9 + t] (List.mem_iff_getElem?.2 ⟨t, by rw [List.getElem?_drop]; exact List.getElem?_eq_getElem hlt⟩)
                rw [List.getElem?_eq_getElem hlt, beq_iff_eq.1 this]
              · rintro e w' ⟨v, rfl, ho, hb2⟩
                exact ⟨hb2, .inl ⟨hcode, v, by rw [openKind, hkd], by rw [openBody, openLen, ← h9]; exact ho⟩⟩
            · have hcode : openCode l u4 = 122 := by
                rw [openCode, if_neg e1, if_neg e2, if_neg e3, if_neg e4, if_neg hall]
              rw [← h9] at hall
              obtain ⟨d, hd⟩ : ∃ d, d = l.drop (11 + u9) := ⟨_, rfl⟩
              rw [← hd] at hall
              have hj : d.findIdx (fun y => !(y == 0)) < d.length := by
                rw [List.findIdx_lt_length]
                rw [List.all_eq_true] at hall
                refine Classical.byContradiction fun hno => hall fun y hy => ?_
                exact Classical.byContradiction fun h => hno ⟨y, hy, by simpa using h⟩
              obtain ⟨j0, hj0⟩ : ∃ j, j = d.findIdx (fun y => !(y == 0)) := ⟨_, rfl⟩
              have hx : d[j0]? = some d[d.findIdx (fun y => !(y == 0))] := by rw [hj0]; exact List.getElem?_eq_getElem hj
              have hxn := List.findIdx_getElem (w := hj)
              refine (ropen_spoilt ad c j0 d[d.findIdx (fun y => !(y == 0))] l u4 w hc s u9 kb CS C0s C4 C9 hkc hkf (by omega) hbx (by rw [← List.getElem?_drop, ← hd]; exact hx) (by
                rw [beq_eq_false_iff_ne]; intro h; have := ub_inj (h.trans (show (0 : Int) = ub 0 from rfl)); simp [this] at hxn) (fun t ht => ?_)).mono ?_
              · have htl : t < d.length := by omega
                have := List.not_of_lt_findIdx (p := fun y => !(y == 0)) (xs := d) (by omega : t < d.findIdx (fun y => !(y == 0)))
                rw [← List.getElem?_drop, ← hd, List.getElem?_eq_getElem htl]
                simp at this
                rw [this]
              · rintro e w' ⟨rfl, hb2⟩
                exact ⟨hb2, .inr ⟨by rw [hcode]; decide, by rw [hcode]⟩⟩
      · have hcode : openCode l number = 121 := by
          rw [openCode, if_neg e1, if_neg e2, if_pos (by rw [← h4]; exact hn4)]
        refine (ropen_place ad c number w hc s u4 CS C0s C4 (by simp; exact hn4)).mono ?_
        rintro e w' ⟨rfl, hb2⟩
        exact ⟨hb2, .inr ⟨by rw [hcode]; decide, by rw [hcode]⟩⟩
    · have hcode : openCode l number = 120 := by
        rw [openCode, if_neg e1, if_pos (by rw [← h0, ← hs]; exact hs0)]
      refine (ropen_sum ad c number w hc s u0 CS C0 (by simp [ui]; omega)).mono ?_
      rintro e w' ⟨rfl, hb2⟩
      exact ⟨hb2, .inr ⟨by rw [hcode]; decide, by rw [hcode]⟩⟩
  · refine (ropen_len A n c l number w hn).mono ?_
    rintro e w' ⟨rfl, rfl⟩
    have h : openCode l number = 122 := by rw [openCode, if_pos (by rw [hb.len]; exact hn)]
    exact ⟨Below.refl _ _, .inr ⟨by rw [h]; decide, by rw [h]⟩⟩

theorem ropen_yes (A : Option Addr) (n c : Nat) (l : List UInt8) (number : Int) (w : World) (hb : Bs w A n l) (hc : n ≤ c) (h0 : openCode l number = 0) :
    Calls Tryd.prog 48 #[.slice A n c, .int .i64 number] w fun e w' => ∃ v, e = .returned (.tuple #[.int .i64 (ub (openKind l)), v, .int .i64 0]) ∧ w'.ownsRow w.heap.size 5 1 v (openLen l) (bs (openBody l)) ∧ Below w.heap.size w w' :=
  (ropen_any A n c l number w hb hc).mono fun e w' h => by
    rcases h.2 with ⟨_, v, he, ho⟩ | ⟨hn, _⟩
    · exact ⟨v, he, ho, h.1⟩
    · exact absurd h0 hn
theorem ropen_no (A : Option Addr) (n c : Nat) (l : List UInt8) (number : Int) (w : World) (hb : Bs w A n l) (hc : n ≤ c) (h0 : ¬ openCode l number = 0) :
    Calls Tryd.prog 48 #[.slice A n c, .int .i64 number] w fun e w' => e = .returned (.tuple #[.int .i64 0, .slice none 0 0, .int .i64 (openCode l number)]) ∧ Below w.heap.size w w' :=
  (ropen_any A n c l number w hb hc).mono fun e w' h => by
    rcases h.2 with ⟨hn, _⟩ | ⟨_, he⟩
    · exact absurd hn h0
    · exact ⟨he, h.1⟩

end Go.Proofs.YteljopjaolegaaaDoor
