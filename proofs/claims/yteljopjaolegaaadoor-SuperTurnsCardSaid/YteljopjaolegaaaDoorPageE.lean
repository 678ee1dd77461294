/-
  CONTRACT: page.Open, behind what is read.
-/
import Derived.Test.YteljopjaolegaaaDoorPageD
namespace Go.Proofs.YteljopjaolegaaaDoor
open Go.RowKit
set_option maxRecDepth 100000
set_option linter.unusedVariables false

set_option maxHeartbeats 1000000 in
theorem open_spoilt (ad : Addr) (c j0 : Nat) (x : UInt8) (l : List UInt8) (number : Int) (w : World) (hc : 4096 ≤ c) (s : BitVec 32) (u9 : Nat) (kb : UInt8)
    (C0 : Hid (∀ wx, wx.heap = w.heap → Calls Tryd.prog 67 #[.slice (some ad) 4096 c, .int .i64 0, .int .i64 4] wx fun e w' => e = .returned (.int .i64 (ui s)) ∧ wx = w'))
    (CS : Hid (∀ wx, wx.heap = w.heap → Calls Tryd.prog 62 #[.slice (some ⟨ad.block, ad.off + 4, none⟩) 4092 (c - 4)] wx fun e w' => e = .returned (.int .i64 (ui s)) ∧ wx = w'))
    (C4 : Hid (∀ wx, wx.heap = w.heap → Calls Tryd.prog 67 #[.slice (some ad) 4096 c, .int .i64 4, .int .i64 4] wx fun e w' => e = .returned (.int .i64 number) ∧ wx = w'))
    (C9 : Hid (∀ wx, wx.heap = w.heap → Calls Tryd.prog 67 #[.slice (some ad) 4096 c, .int .i64 9, .int .i64 2] wx fun e w' => e = .returned (.int .i64 u9) ∧ wx = w'))
    (hk : w.cell? ⟨ad.block, ad.off + 8, none⟩ = some (.int .u8 (ub kb))) (h : (ub kb == 0) = false) (h9 : (u9 : Int) ≤ 4085) (hb : ∀ wx : World, wx.heap = w.heap → Bs wx (some ad) 4096 l) (hx : l[11 + u9 + j0]? = some x) (hx0 : (ub x == 0) = false) (hz : ∀ t, t < j0 → l[11 + u9 + t]? = some 0) :
    Calls Tryd.prog 44 #[.slice (some ad) 4096 c, .int .i64 number] w fun e w' => e = .returned (.tuple #[.int .i64 0, .slice none 0 0, .int .i64 122]) ∧ Below w.heap.size w w' := by
  have hci : (4096 : Int) ≤ (c : Int) := by omega
  have hss : (ui s != ui s) = false := by simp
  have hnn : (number != number) = false := by simp
  clear hc
  go_enter Tryd.func44, Tryd.ntmps44
  go_wp2_with fail
  go_quiet (first | (go_at_call 67; exact quiet_same (C0.out _ rfl)) | (go_at_call 62; exact quiet_same (CS.out _ rfl)))
  obtain ⟨w2, hw2⟩ : ∃ w2, w2 = w.drewN nq := ⟨_, rfl⟩
  have hh : w2.heap = w.heap := by rw [hw2]; rfl
  have hk2 : w2.cell? ⟨ad.block, ad.off + 8, none⟩ = some (.int .u8 (ub kb)) := by rw [hw2]; exact hk
  have HB2 : Hid (Below w.heap.size w w2) := Lib.hid (by rw [hw2]; exact below_drewN (Below.refl _ _) _)
  rw [← hw2]
  clear hw2 hk
  have Hh := Lib.hid hh
  clear hh
  go_wp2_with (go_at_call 67; refine (C4.out w2 Hh.out).mono ?_; rintro e w' ⟨rfl, rfl⟩)
  go_quiet ((go_at_call 67; exact quiet_same (C9.out _ Hh.out)))
  have Hb := Lib.hid hb
  have Hx := Lib.hid hx
  have Hz := Lib.hid hz
  have Hj : Hid (11 + u9 + j0 < 4096) := Lib.hid (by have := (List.getElem?_eq_some_iff.1 hx).1; have := (hb w rfl).len; omega)
  clear hb hx hz
  go_wp2_with fail
  case inl => rename_i hcc; exfalso; have := Hj.out; omega
  case inr =>
    clear C0 CS C4 C9
    obtain ⟨w3, hw3⟩ : ∃ w3, w3 = w2.drewN nq := ⟨_, rfl⟩
    have H3 : Hid (Below w.heap.size w w3) := Lib.hid (by rw [hw3]; exact below_drewN HB2.out _)
    have Hh3 : Hid (w3.heap = w.heap) := Lib.hid (by rw [hw3]; exact Hh.out)
    rw [← hw3]
    clear hw3 hk2
    obtain ⟨q, hq⟩ : ∃ q, q = 11 + u9 := ⟨_, rfl⟩
    have Hq := Lib.hid hq
    rw [← hq]
    obtain ⟨ln, hln⟩ : ∃ ln, ln = 4096 - q := ⟨_, rfl⟩
    have Hln := Lib.hid hln
    rw [← hln]
    clear hq hln
    go_loopw [45] (fun i wr => ∃ j : Nat, j ≤ j0 ∧ i = .int .i64 j ∧ wr = w3) (fun i _ => j0 + 1 - (intOf i).toNat)
    case atStart => exact ⟨0, by omega, rfl, rfl⟩
    case round =>
      obtain ⟨j, hj, rfl, rfl⟩ := hrel
      have hjl : (j : Int) < (ln : Int) := by have := Hj.out; have := Hq.out; have := Hln.out; omega
      have hlb : (ln : Int) ≤ 4096 := by have := Hln.out; omega
      have hcell : ∀ y, l[11 + u9 + j]? = some y → wr.cell? ((ad.add q).add j) = some (.int .u8 (ub y)) := by
        intro y hy
        obtain ⟨ad', e, hc⟩ := (Hb.out wr Hh3.out).2.2 _ y hy
        cases e
        rw [Addr.add_add', Hq.out]
        exact hc
      by_cases he : j = j0
      · have hc := hcell x (by rw [he]; exact Hx.out)
        have hx1 : (ub x != 0) = true := by simp [bne, hx0]
        clear hcell he
        go_wp2_with fail
        go_ret3
        exact ⟨rfl, H3.out⟩
      · have hc := hcell 0 (Hz.out j (by omega))
        have hc0 : wr.cell? ((ad.add q).add j) = some (.int .u8 0) := hc
        clear hcell hc
        go_wp2_with fail
        go_roundw
        case rel => exact ⟨j + 1, by omega, by go_num, trivial⟩
        case measure => simp [intOf]; omega

set_option maxHeartbeats 1000000 in
theorem open_fine (ad : Addr) (c : Nat) (l : List UInt8) (number : Int) (w : World) (hc : 4096 ≤ c) (s : BitVec 32) (u9 : Nat) (kb : UInt8)
    (C0 : Hid (∀ wx, wx.heap = w.heap → Calls Tryd.prog 67 #[.slice (some ad) 4096 c, .int .i64 0, .int .i64 4] wx fun e w' => e = .returned (.int .i64 (ui s)) ∧ wx = w'))
    (CS : Hid (∀ wx, wx.heap = w.heap → Calls Tryd.prog 62 #[.slice (some ⟨ad.block, ad.off + 4, none⟩) 4092 (c - 4)] wx fun e w' => e = .returned (.int .i64 (ui s)) ∧ wx = w'))
    (C4 : Hid (∀ wx, wx.heap = w.heap → Calls Tryd.prog 67 #[.slice (some ad) 4096 c, .int .i64 4, .int .i64 4] wx fun e w' => e = .returned (.int .i64 number) ∧ wx = w'))
    (C9 : Hid (∀ wx, wx.heap = w.heap → Calls Tryd.prog 67 #[.slice (some ad) 4096 c, .int .i64 9, .int .i64 2] wx fun e w' => e = .returned (.int .i64 u9) ∧ wx = w'))
    (hk : w.cell? ⟨ad.block, ad.off + 8, none⟩ = some (.int .u8 (ub kb))) (h : (ub kb == 0) = false) (h9 : (u9 : Int) ≤ 4085) (hb : ∀ wx : World, wx.heap = w.heap → Bs wx (some ad) 4096 l) (hN : Nib w) (hz : ∀ t, 11 + u9 + t < 4096 → l[11 + u9 + t]? = some 0) :
    Calls Tryd.prog 44 #[.slice (some ad) 4096 c, .int .i64 number] w fun e w' => ∃ v, e = .returned (.tuple #[.int .i64 (ub kb), v, .int .i64 0]) ∧ w'.ownsRow w.heap.size 5 1 v u9 (bs ((l.drop 11).take u9)) ∧ Below w.heap.size w w' := by
  have hci : (4096 : Int) ≤ (c : Int) := by omega
  have hss : (ui s != ui s) = false := by simp
  have hnn : (number != number) = false := by simp
  clear hc
  go_enter Tryd.func44, Tryd.ntmps44
  go_wp2_with fail
  go_quiet (first | (go_at_call 67; exact quiet_same (C0.out _ rfl)) | (go_at_call 62; exact quiet_same (CS.out _ rfl)))
  obtain ⟨w2, hw2⟩ : ∃ w2, w2 = w.drewN nq := ⟨_, rfl⟩
  have hh : w2.heap = w.heap := by rw [hw2]; rfl
  have hk2 : w2.cell? ⟨ad.block, ad.off + 8, none⟩ = some (.int .u8 (ub kb)) := by rw [hw2]; exact hk
  have HB2 : Hid (Below w.heap.size w w2) := Lib.hid (by rw [hw2]; exact below_drewN (Below.refl _ _) _)
  rw [← hw2]
  clear hw2 hk
  have Hh := Lib.hid hh
  clear hh
  go_wp2_with (go_at_call 67; refine (C4.out w2 Hh.out).mono ?_; rintro e w' ⟨rfl, rfl⟩)
  go_quiet ((go_at_call 67; exact quiet_same (C9.out _ Hh.out)))
  have Hb := Lib.hid hb
  have Hz := Lib.hid hz
  have Hinfo := Lib.hid info_u8
  have Hsz := Lib.hid size_u8
  clear hb hz hN
  go_wp2_with fail
  case inl =>
    clear C0 CS C4 C9
    obtain ⟨w3, hw3⟩ : ∃ w3, w3 = w2.drewN nq := ⟨_, rfl⟩
    have H3 : Hid (Below w.heap.size w w3) := Lib.hid (by rw [hw3]; exact below_drewN HB2.out _)
    have Hh3 : Hid (w3.heap = w.heap) := Lib.hid (by rw [hw3]; exact Hh.out)
    rw [← hw3]
    clear hw3 hk2
    obtain ⟨q, hq⟩ : ∃ q, q = 11 + u9 := ⟨_, rfl⟩
    have Hq := Lib.hid hq
    skip
    obtain ⟨ln, hln⟩ : ∃ ln, ln = 4096 - (11 + u9) := ⟨_, rfl⟩
    have Hln := Lib.hid hln
    have Hnone : Hid (ln = 0) := Lib.hid (by omega)
    rw [← hln]
    clear hq hln
    go_loopw [45] (fun i wr => ∃ j : Nat, j ≤ ln ∧ i = .int .i64 j ∧ wr = w3) (fun i _ => ln - (intOf i).toNat)
    case atStart => exact ⟨0, by omega, rfl, rfl⟩
    case round =>
      obtain ⟨j, hj, rfl, rfl⟩ := hrel
      have hlb : (ln : Int) ≤ 4096 := by have := Hln.out; omega
      by_cases hlt : j < ln
      · exfalso; have := Hnone.out; omega
      · have hjl : ¬ (j : Int) < (ln : Int) := by omega
        have B3 : Hid (w.heap.size ≤ wr.heap.size) := Lib.hid H3.out.size
        have Hm1 : Hid (1 * u9 ≤ 281474976710656) := Lib.hid (by omega)
        have Hm2 : Hid (u9 ≤ maxLen) := Lib.hid (by simp only [maxLen]; omega)
        have Hsrc : Hid (∀ wx, Below wr.heap.size wr wx → Bs wx (some ⟨ad.block, ad.off + 11, none⟩) 4085 (l.drop 11)) := Lib.hid (fun wx hx => by
          have h1 := ((Hb.out wr Hh3.out).sub 11 4085 (by omega)).below hx
          have hl := (Hb.out wr Hh3.out).len
          rw [List.take_of_length_le (by rw [List.length_drop, hl]; exact Nat.le_refl _)] at h1
          exact h1)
        have Hmin : Hid (u9 = Nat.min 4085 u9) := Lib.hid (by show u9 = min 4085 u9; omega)
        have Hfit : Hid (0 + u9 ≤ (List.replicate u9 (0 : UInt8)).length) := Lib.hid (by simp)
        go_wp2_with (first
          | (at_make; refine wpList_make_zeros rfl _ _ 31 rfl w.heap.size 5 (.int .u8 0) 1 Tryd.underlying31 Hinfo.out rfl _ _ u9 rfl rfl rfl rfl Hm1.out Hm2.out B3.out ?_; intro w4 Ho4 hb4; have Z4 := zero_block Ho4; have B4 := Lib.hid hb4; clear hb4 Ho4)
          | (refine wpList_copy_bytes rfl _ _ 31 31 rfl 5 Tryd.underlying31 Hsz.out (some ⟨wr.heap.size, 0, none⟩) u9 u9 (some ⟨ad.block, ad.off + 11, none⟩) 4085 _ rfl rfl wr.heap.size 0 (List.replicate u9 0) 5 Z4.out (l.drop 11) (Hsrc.out _ B4.out) u9 Hmin.out (fun _ => rfl) Hfit.out ?_; intro w5 hw5 hg5))
        go_ret3
        have hlen : ((l.drop 11).take u9).length = u9 := by
          have hl := (Hb.out wr Hh3.out).len
          rw [List.length_take, List.length_drop, hl]; omega
        refine ⟨_, rfl, ⟨by simp [bs_length, hlen], .inr ⟨wr.heap.size, u9, (bs ((l.drop 11).take u9)).toArray, rfl, B3.out, ?_, Nat.le_refl _, Hm2.out, by simp [bs_length, hlen], ?_⟩⟩, ?_⟩
        · have := hw5.out
          rw [show splice (List.replicate u9 (0 : UInt8)) 0 ((l.drop 11).take u9) = (l.drop 11).take u9 by
            rw [splice, hlen, List.take_zero, List.nil_append, Nat.zero_add, List.drop_replicate, Nat.sub_self, List.replicate_zero, List.append_nil]] at this
          exact this
        · rw [List.take_of_length_le (by simp [bs_length, hlen])]
        · exact (H3.out.trans (B4.out.mono B3.out)).grown hg5 (Nat.le_trans B3.out B4.out.size) (fun k hk => by cases hk; exact B3.out)
  case inr =>
    clear C0 CS C4 C9
    obtain ⟨w3, hw3⟩ : ∃ w3, w3 = w2.drewN nq := ⟨_, rfl⟩
    have H3 : Hid (Below w.heap.size w w3) := Lib.hid (by rw [hw3]; exact below_drewN HB2.out _)
    have Hh3 : Hid (w3.heap = w.heap) := Lib.hid (by rw [hw3]; exact Hh.out)
    rw [← hw3]
    clear hw3 hk2
    obtain ⟨q, hq⟩ : ∃ q, q = 11 + u9 := ⟨_, rfl⟩
    have Hq := Lib.hid hq
    rw [← hq]
    obtain ⟨ln, hln⟩ : ∃ ln, ln = 4096 - q := ⟨_, rfl⟩
    have Hln := Lib.hid hln
    have Hnone : Hid (True) := Lib.hid (trivial)
    rw [← hln]
    clear hq hln
    go_loopw [45] (fun i wr => ∃ j : Nat, j ≤ ln ∧ i = .int .i64 j ∧ wr = w3) (fun i _ => ln - (intOf i).toNat)
    case atStart => exact ⟨0, by omega, rfl, rfl⟩
    case round =>
      obtain ⟨j, hj, rfl, rfl⟩ := hrel
      have hlb : (ln : Int) ≤ 4096 := by have := Hln.out; omega
      by_cases hlt : j < ln
      · have hjl : (j : Int) < (ln : Int) := by omega
        have hc0 : wr.cell? ((ad.add q).add j) = some (.int .u8 0) := by
          obtain ⟨ad', e, hc⟩ := (Hb.out wr Hh3.out).2.2 _ 0 (Hz.out j (by have := Hln.out; have := Hq.out; omega))
          cases e
          rw [Addr.add_add', Hq.out]
          exact hc
        go_wp2_with fail
        go_roundw
        case rel => exact ⟨j + 1, by omega, by go_num, trivial⟩
        case measure => simp [intOf]; omega
      · have hjl : ¬ (j : Int) < (ln : Int) := by omega
        have B3 : Hid (w.heap.size ≤ wr.heap.size) := Lib.hid H3.out.size
        have Hm1 : Hid (1 * u9 ≤ 281474976710656) := Lib.hid (by omega)
        have Hm2 : Hid (u9 ≤ maxLen) := Lib.hid (by simp only [maxLen]; omega)
        have Hsrc : Hid (∀ wx, Below wr.heap.size wr wx → Bs wx (some ⟨ad.block, ad.off + 11, none⟩) 4085 (l.drop 11)) := Lib.hid (fun wx hx => by
          have h1 := ((Hb.out wr Hh3.out).sub 11 4085 (by omega)).below hx
          have hl := (Hb.out wr Hh3.out).len
          rw [List.take_of_length_le (by rw [List.length_drop, hl]; exact Nat.le_refl _)] at h1
          exact h1)
        have Hmin : Hid (u9 = Nat.min 4085 u9) := Lib.hid (by show u9 = min 4085 u9; omega)
        have Hfit : Hid (0 + u9 ≤ (List.replicate u9 (0 : UInt8)).length) := Lib.hid (by simp)
        go_wp2_with (first
          | (at_make; refine wpList_make_zeros rfl _ _ 31 rfl w.heap.size 5 (.int .u8 0) 1 Tryd.underlying31 Hinfo.out rfl _ _ u9 rfl rfl rfl rfl Hm1.out Hm2.out B3.out ?_; intro w4 Ho4 hb4; have Z4 := zero_block Ho4; have B4 := Lib.hid hb4; clear hb4 Ho4)
          | (refine wpList_copy_bytes rfl _ _ 31 31 rfl 5 Tryd.underlying31 Hsz.out (some ⟨wr.heap.size, 0, none⟩) u9 u9 (some ⟨ad.block, ad.off + 11, none⟩) 4085 _ rfl rfl wr.heap.size 0 (List.replicate u9 0) 5 Z4.out (l.drop 11) (Hsrc.out _ B4.out) u9 Hmin.out (fun _ => rfl) Hfit.out ?_; intro w5 hw5 hg5))
        go_ret3
        have hlen : ((l.drop 11).take u9).length = u9 := by
          have hl := (Hb.out wr Hh3.out).len
          rw [List.length_take, List.length_drop, hl]; omega
        refine ⟨_, rfl, ⟨by simp [bs_length, hlen], .inr ⟨wr.heap.size, u9, (bs ((l.drop 11).take u9)).toArray, rfl, B3.out, ?_, Nat.le_refl _, Hm2.out, by simp [bs_length, hlen], ?_⟩⟩, ?_⟩
        · have := hw5.out
          rw [show splice (List.replicate u9 (0 : UInt8)) 0 ((l.drop 11).take u9) = (l.drop 11).take u9 by
            rw [splice, hlen, List.take_zero, List.nil_append, Nat.zero_add, List.drop_replicate, Nat.sub_self, List.replicate_zero, List.append_nil]] at this
          exact this
        · rw [List.take_of_length_le (by simp [bs_length, hlen])]
        · exact (H3.out.trans (B4.out.mono B3.out)).grown hg5 (Nat.le_trans B3.out B4.out.size) (fun k hk => by cases hk; exact B3.out)

end Go.Proofs.YteljopjaolegaaaDoor
