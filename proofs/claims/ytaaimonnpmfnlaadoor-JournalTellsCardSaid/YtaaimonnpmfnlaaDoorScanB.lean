/-
  CONTRACT: journal.next: the frame that stands at the beginning of bytes.
-/
import Derived.Test.YtaaimonnpmfnlaaDoorScanA
namespace Go.Proofs.YtaaimonnpmfnlaaDoor
open Go.RowKit
set_option maxRecDepth 100000
set_option linter.unusedVariables false

theorem read_four (A : Option Addr) (n c a : Nat) (l : List UInt8) (w : World) (hb : Bs w A n l) (hc : n ≤ c) (hk : a + 4 ≤ n) :
    Calls Tryd.prog 60 #[.slice A n c, .int .i64 a, .int .i64 4] w fun e w' => e = .returned (.tuple #[.int .i64 (unle ((l.drop a).take 4)), .int .i64 0]) ∧ w = w' := by
  have hs : unle ((l.drop a).take 4) ≤ 9223372036854775807 := by
    have h1 := unle_lt ((l.drop a).take 4)
    have h2 : ((l.drop a).take 4).length ≤ 4 := by simp; omega
    have h3 : 256 ^ ((l.drop a).take 4).length ≤ 256 ^ 4 := Nat.pow_le_pow_right (by omega) h2
    have : (256 : Nat) ^ 4 = 4294967296 := by decide
    omega
  have := read_ok A n c a 4 l w hb hc (by omega) (by omega) hk
  rw [readRes_ok hs] at this
  exact this

theorem next_short (A : Option Addr) (n c : Nat) (e number : Int) (w : World) (h : n < 20) :
    Calls Tryd.prog 42 #[.slice A n c, .int .i64 e, .int .i64 number] w fun r w' => r = .returned (.int .i64 0) ∧ w = w' := by
  have hi : (n : Int) < 20 := by omega
  clear h
  go_enter Tryd.func42, Tryd.ntmps42
  go_wp2
  go_ret
  exact ⟨rfl, rfl⟩

theorem next_long (ad : Addr) (n c u : Nat) (e number : Int) (w : World) (hmx : (n : Int) ≤ 9223372036854775807) (h : 20 ≤ n) (hu : (n : Int) - 20 < (u : Int) ∨ (268435456 : Int) < (u : Int))
    (C0 : Hid (Calls Tryd.prog 60 #[.slice (some ad) n c, .int .i64 0, .int .i64 4] w fun e w' => e = .returned (.tuple #[.int .i64 u, .int .i64 0]) ∧ w = w')) :
    Calls Tryd.prog 42 #[.slice (some ad) n c, .int .i64 e, .int .i64 number] w fun r w' => r = .returned (.int .i64 0) ∧ w = w' := by
  have hi : (20 : Int) ≤ (n : Int) := by omega
  clear h
  by_cases h1 : (n : Int) - 20 < (u : Int)
  · clear hu
    go_enter Tryd.func42, Tryd.ntmps42
    go_wp2_with (go_at_call 60; (with_reducible refine C0.out.mono ?_); rintro r w' ⟨rfl, rfl⟩)
    go_ret
    exact ⟨rfl, rfl⟩
  · have h2 : (268435456 : Int) < (u : Int) := by omega
    clear hu
    go_enter Tryd.func42, Tryd.ntmps42
    go_wp2_with (go_at_call 60; (with_reducible refine C0.out.mono ?_); rintro r w' ⟨rfl, rfl⟩)
    go_ret
    exact ⟨rfl, rfl⟩

set_option maxHeartbeats 2000000 in
theorem next_head (ad : Addr) (n c u m : Nat) (e number z1 z2 n2 s2 k2 : Int) (w : World) (hmx : (n : Int) ≤ 9223372036854775807) (h : 20 ≤ n) (hc : n ≤ c) (hu : u + 20 ≤ n) (hm : m = 20 + u) (hl : u ≤ 268435456)
    (C0 : Hid (Calls Tryd.prog 60 #[.slice (some ad) n c, .int .i64 0, .int .i64 4] w fun e w' => e = .returned (.tuple #[.int .i64 u, .int .i64 0]) ∧ w = w'))
    (C1 : Hid (∀ wx : World, wx.heap = w.heap → Calls Tryd.prog 60 #[.slice (some ad) m c, .int .i64 4, .int .i64 8] wx fun e w' => e = .returned (.tuple #[.int .i64 z1, .int .i64 z2]) ∧ wx = w'))
    (C2 : Hid (∀ wx : World, wx.heap = w.heap → Calls Tryd.prog 60 #[.slice (some ad) m c, .int .i64 12, .int .i64 4] wx fun e w' => e = .returned (.tuple #[.int .i64 n2, .int .i64 0]) ∧ wx = w'))
    (C3 : Hid (∀ wx : World, wx.heap = w.heap → Calls Tryd.prog 60 #[.slice (some ad) m c, .int .i64 16, .int .i64 4] wx fun e w' => e = .returned (.tuple #[.int .i64 s2, .int .i64 0]) ∧ wx = w'))
    (C4 : Hid (∀ wx : World, wx.heap = w.heap → Calls Tryd.prog 36 #[.slice (some ad) m c] wx fun e w' => e = .returned (.int .i64 k2) ∧ ∃ k, w' = wx.drewN k)) :
    Calls Tryd.prog 42 #[.slice (some ad) n c, .int .i64 e, .int .i64 number] w fun r w' => r = .returned (.int .i64 (if z2 = 0 ∧ z1 = e ∧ n2 = number ∧ s2 = k2 then (m : Int) else 0)) ∧ Below w.heap.size w w' := by
  have hi : (20 : Int) ≤ (n : Int) := by omega
  have hui : ¬ (n : Int) - 20 < (u : Int) := by omega
  have hli : (u : Int) ≤ 268435456 := by omega
  have hmu : 20 + u = m := hm.symm
  have hmi : (20 : Int) + (u : Int) = (m : Int) := by omega
  have hmw : IntKind.i64.wrap (20 + (u : Int)) = (m : Int) := by rw [wrapi_i64 _ (by omega) (by omega)]; omega
  have hmc : (m : Int) ≤ (c : Int) := by omega
  clear h hc hu hm hl
  by_cases g1 : z2 = 0
  · subst g1
    by_cases g2 : z1 = e
    · subst g2
      by_cases g3 : n2 = number
      · subst g3
        by_cases g4 : s2 = k2
        · subst g4
          rw [if_pos ⟨rfl, rfl, rfl, rfl⟩]
          go_enter Tryd.func42, Tryd.ntmps42
          go_wp2_with (first
            | (go_at_call 60; (first | (with_reducible refine C0.out.mono ?_) | (with_reducible refine (C1.out w rfl).mono ?_) | (with_reducible refine (C2.out w rfl).mono ?_) | (with_reducible refine (C3.out w rfl).mono ?_)); rintro r w' ⟨rfl, rfl⟩)
            | (go_at_call 36; (with_reducible refine (C4.out w rfl).mono ?_); rintro r w9 ⟨rfl, k, hk⟩; have G9 : Hid (Below w.heap.size w w9) := Lib.hid (by rw [hk]; exact below_drewN (Below.refl _ _) k); clear hk))
          go_ret
          exact ⟨rfl, G9.out⟩
        · rw [if_neg (fun h => g4 h.2.2.2)]
          have b4 : (s2 != k2) = true := by simp; exact g4
          clear g4
          go_enter Tryd.func42, Tryd.ntmps42
          go_wp2_with (first
            | (go_at_call 60; (first | (with_reducible refine C0.out.mono ?_) | (with_reducible refine (C1.out w rfl).mono ?_) | (with_reducible refine (C2.out w rfl).mono ?_) | (with_reducible refine (C3.out w rfl).mono ?_)); rintro r w' ⟨rfl, rfl⟩)
            | (go_at_call 36; (with_reducible refine (C4.out w rfl).mono ?_); rintro r w9 ⟨rfl, k, hk⟩; have G9 : Hid (Below w.heap.size w w9) := Lib.hid (by rw [hk]; exact below_drewN (Below.refl _ _) k); clear hk))
          go_ret
          exact ⟨rfl, G9.out⟩
      · rw [if_neg (fun h => g3 h.2.2.1)]
        have b3 : (n2 != number) = true := by simp; exact g3
        clear g3
        go_enter Tryd.func42, Tryd.ntmps42
        go_wp2_with (first
          | (go_at_call 60; (first | (with_reducible refine C0.out.mono ?_) | (with_reducible refine (C1.out w rfl).mono ?_) | (with_reducible refine (C2.out w rfl).mono ?_) | (with_reducible refine (C3.out w rfl).mono ?_)); rintro r w' ⟨rfl, rfl⟩)
          | (go_at_call 36; (with_reducible refine (C4.out w rfl).mono ?_); rintro r w9 ⟨rfl, k, hk⟩; have G9 : Hid (Below w.heap.size w w9) := Lib.hid (by rw [hk]; exact below_drewN (Below.refl _ _) k); clear hk))
        go_ret
        exact ⟨rfl, Below.refl _ _⟩
    · rw [if_neg (fun h => g2 h.2.1)]
      have b2 : (z1 != e) = true := by simp; exact g2
      clear g2
      go_enter Tryd.func42, Tryd.ntmps42
      go_wp2_with (first
        | (go_at_call 60; (first | (with_reducible refine C0.out.mono ?_) | (with_reducible refine (C1.out w rfl).mono ?_) | (with_reducible refine (C2.out w rfl).mono ?_) | (with_reducible refine (C3.out w rfl).mono ?_)); rintro r w' ⟨rfl, rfl⟩)
        | (go_at_call 36; (with_reducible refine (C4.out w rfl).mono ?_); rintro r w9 ⟨rfl, k, hk⟩; have G9 : Hid (Below w.heap.size w w9) := Lib.hid (by rw [hk]; exact below_drewN (Below.refl _ _) k); clear hk))
      go_ret
      exact ⟨rfl, Below.refl _ _⟩
  · rw [if_neg (fun h => g1 h.1)]
    have b1 : (z2 != 0) = true := by simp; exact g1
    clear g1
    go_enter Tryd.func42, Tryd.ntmps42
    go_wp2_with (first
      | (go_at_call 60; (first | (with_reducible refine C0.out.mono ?_) | (with_reducible refine (C1.out w rfl).mono ?_) | (with_reducible refine (C2.out w rfl).mono ?_) | (with_reducible refine (C3.out w rfl).mono ?_)); rintro r w' ⟨rfl, rfl⟩)
      | (go_at_call 36; (with_reducible refine (C4.out w rfl).mono ?_); rintro r w9 ⟨rfl, k, hk⟩; have G9 : Hid (Below w.heap.size w w9) := Lib.hid (by rw [hk]; exact below_drewN (Below.refl _ _) k); clear hk))
    go_ret
    exact ⟨rfl, Below.refl _ _⟩

theorem next_any (A : Option Addr) (n c e number : Nat) (l : List UInt8) (w : World) (hN : Nib w) (hb : Bs w A n l) (hc : n ≤ c) (he : e ≤ 1099511627776) (hn : number < 2147483648) :
    Calls Tryd.prog 42 #[.slice A n c, .int .i64 e, .int .i64 number] w fun r w' => r = .returned (.int .i64 (nextOf l e number : Nat)) ∧ Below w.heap.size w w' := by
  have hl := hb.len
  by_cases h20 : 20 ≤ n
  · obtain ⟨ad, _, rfl, -, -⟩ := hb.get (k := 0) (by omega)
    obtain ⟨u, hu⟩ : ∃ u, u = unle (l.take 4) := ⟨_, rfl⟩
    have C0 := read_four (some ad) n c 0 l w hb hc (by omega)
    rw [List.drop_zero, ← hu] at C0
    have hmx := hb.max
    by_cases hlong : (n : Int) - 20 < (u : Int) ∨ (268435456 : Int) < (u : Int)
    · have e0 : nextOf l e number = 0 := by
        rw [nextOf, ← hu, if_neg (by omega)]
      rw [e0]
      exact (next_long ad n c u e number w (by omega) h20 hlong (Lib.hid C0)).mono fun r w' h => ⟨h.1, by rw [← h.2]; exact Below.refl _ _⟩
    · obtain ⟨t, ht⟩ : ∃ t, t = l.take (20 + u) := ⟨_, rfl⟩
      have hbt : ∀ wx : World, wx.heap = w.heap → Bs wx (some ad) (20 + u) t := fun wx h => by rw [ht]; exact (hb.heap h).head (20 + u) (by omega)
      have htl : t.length = 20 + u := (hbt w rfl).len
      have C1 : Hid (∀ wx : World, wx.heap = w.heap → Calls Tryd.prog 60 #[.slice (some ad) (20 + u) c, .int .i64 4, .int .i64 8] wx fun e w' => e = .returned (.tuple #[.int .i64 (readRes (unle ((t.drop 4).take 8))).1, .int .i64 (readRes (unle ((t.drop 4).take 8))).2]) ∧ wx = w') := Lib.hid (fun wx h =>
        read_ok (some ad) (20 + u) c 4 8 t wx (hbt wx h) (by omega) (by omega) (by omega) (by omega))
      have C2 : Hid (∀ wx : World, wx.heap = w.heap → Calls Tryd.prog 60 #[.slice (some ad) (20 + u) c, .int .i64 12, .int .i64 4] wx fun e w' => e = .returned (.tuple #[.int .i64 (unle ((t.drop 12).take 4)), .int .i64 0]) ∧ wx = w') := Lib.hid (fun wx h =>
        read_four (some ad) (20 + u) c 12 t wx (hbt wx h) (by omega) (by omega))
      have C3 : Hid (∀ wx : World, wx.heap = w.heap → Calls Tryd.prog 60 #[.slice (some ad) (20 + u) c, .int .i64 16, .int .i64 4] wx fun e w' => e = .returned (.tuple #[.int .i64 (unle ((t.drop 16).take 4)), .int .i64 0]) ∧ wx = w') := Lib.hid (fun wx h =>
        read_four (some ad) (20 + u) c 16 t wx (hbt wx h) (by omega) (by omega))
      have C4 : Hid (∀ wx : World, wx.heap = w.heap → Calls Tryd.prog 36 #[.slice (some ad) (20 + u) c] wx fun e w' => e = .returned (.int .i64 (ui (Crc.sum (t.take 16 ++ t.drop 20)))) ∧ ∃ k, w' = wx.drewN k) := Lib.hid (fun wx h =>
        checked_any (some ad) (20 + u) c t wx (hN.heap h) (hbt wx h) (by omega) (by omega))
      have hh := next_head ad n c u (20 + u) e number _ _ _ _ _ w (by omega) h20 hc (by omega) rfl (by omega) (Lib.hid C0) C1 C2 C3 C4
      have hiff := next_says l e number (by omega) (by omega) (by omega) (by rw [← hu]; omega)
      rw [← hu, ← ht] at hiff
      have hval : (if (readRes (unle ((t.drop 4).take 8))).2 = 0 ∧ (readRes (unle ((t.drop 4).take 8))).1 = (e : Int) ∧ ((unle ((t.drop 12).take 4) : Nat) : Int) = (number : Int) ∧ ((unle ((t.drop 16).take 4) : Nat) : Int) = ui (Crc.sum (t.take 16 ++ t.drop 20)) then (((20 + u : Nat)) : Int) else 0) = ((nextOf l e number : Nat) : Int) := by
        have hs : ((readRes (unle ((t.drop 4).take 8))).2 = 0 ∧ (readRes (unle ((t.drop 4).take 8))).1 = (e : Int) ∧ ((unle ((t.drop 12).take 4) : Nat) : Int) = (number : Int) ∧ ((unle ((t.drop 16).take 4) : Nat) : Int) = ui (Crc.sum (t.take 16 ++ t.drop 20))) ↔ headSays t e number := by
          rw [headSays]
          unfold ui
          rcases stamp_cases (unle ((t.drop 4).take 8)) e he with ⟨h1, hr⟩ | ⟨h1, z, hr, hz⟩ | ⟨h1, hr⟩
          · rw [hr]
            constructor
            · intro h; exact ⟨h1, by omega, by omega⟩
            · intro h; exact ⟨rfl, rfl, by omega, by omega⟩
          · rw [hr]
            constructor
            · intro h; exact absurd h.2.1 hz
            · intro h; exact absurd h.1 h1
          · rw [hr]
            constructor
            · intro h; exact absurd h.1 (by decide)
            · intro h; exact absurd h.1 h1
        by_cases hc1 : headSays t e number
        · rw [if_pos (hs.2 hc1), nextOf, ← hu, if_pos ⟨by omega, by omega, by omega, hn, by rw [← ht]; exact hiff.2 hc1⟩]
        · rw [if_neg (fun h => hc1 (hs.1 h)), nextOf, ← hu, if_neg (fun h => hc1 (hiff.1 (by rw [ht]; exact h.2.2.2.2)))]
          rfl
      rw [hval] at hh
      exact hh
  · have e0 : nextOf l e number = 0 := by rw [nextOf, if_neg (by omega)]
    rw [e0]
    exact (next_short A n c e number w (by omega)).mono fun r w' h => ⟨h.1, by rw [← h.2]; exact Below.refl _ _⟩

end Go.Proofs.YtaaimonnpmfnlaaDoor
