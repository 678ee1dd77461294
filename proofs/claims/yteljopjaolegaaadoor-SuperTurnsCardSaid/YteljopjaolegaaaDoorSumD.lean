/-
  CONTRACTS: Read, of the program and of the reference.
-/
import Derived.Test.YteljopjaolegaaaDoorSumN
namespace Go.Proofs.YteljopjaolegaaaDoor
open Go.RowKit
set_option maxRecDepth 100000

theorem Addr.add_add' (ad : Addr) (a j : Nat) : (ad.add a).add j = ad.add (a + j) := by
  unfold Addr.add
  by_cases ha : a = 0
  · subst ha; simp
  · by_cases hj : j = 0
    · subst hj; simp [ha]
    · simp [ha, hj, Nat.add_assoc]

/-- A piece of what is read. -/
theorem Bs.sub {w : World} {A : Option Addr} {n : Nat} {l : List UInt8} (h : Bs w A n l) (a k : Nat) (hk : a + k ≤ n) : Bs w (A.map (·.add a)) k ((l.drop a).take k) :=
  ⟨by rw [List.length_take, List.length_drop, h.len]; omega, by have := h.max; omega, fun j c hj => by
    rw [List.getElem?_take] at hj
    split at hj
    · rw [List.getElem?_drop] at hj
      obtain ⟨ad, rfl, hc⟩ := h.2.2 _ _ hj
      exact ⟨_, rfl, by rw [Addr.add_add']; exact hc⟩
    · cases hj⟩

/-- What is told of a number that stands in bytes. -/
def readRes (u : Nat) : Int × Int := if u ≤ 9223372036854775807 then ((u : Int), 0) else (0, 111)
theorem readRes_ok {u : Nat} (h : u ≤ 9223372036854775807) : readRes u = ((u : Int), 0) := if_pos h
theorem readRes_big {u : Nat} (h : ¬ u ≤ 9223372036854775807) : readRes u = (0, 111) := if_neg h

set_option maxHeartbeats 400000 in
theorem read_ok (A : Option Addr) (n c a k : Nat) (l : List UInt8) (w : World) (hb : Bs w A n l) (hc : n ≤ c) (h1 : 1 ≤ k) (h8 : k ≤ 8) (hk : a + k ≤ n) :
    Calls Tryd.prog 47 #[.slice A n c, .int .i64 a, .int .i64 k] w fun e w' =>
      e = .returned (.tuple #[.int .i64 (readRes (unle ((l.drop a).take k))).1, .int .i64 (readRes (unle ((l.drop a).take k))).2]) ∧ w = w' := by
  obtain ⟨ad, c0, rfl, _, _⟩ := hb.get (k := a) (by omega)
  have hs := hb.sub a k hk
  have hne : ¬ c = a := by omega
  have Hs := Lib.hid hs
  have hn := hb.max
  clear hs hb
  go_enter Tryd.func47, Tryd.ntmps47
  obtain ⟨p, hp⟩ : ∃ p, p = (l.drop a).take k := ⟨_, rfl⟩
  rw [← hp]
  rw [← hp] at Hs
  have Hp := Lib.hid hp
  clear hp
  go_wp2_with fail
  go_loop [8, 9, 10, 42] (fun x _ _ i => ∃ j : Nat, j ≤ k ∧ i = .int .i64 j ∧ x = .int .u64 (unle (p.take j) : Nat)) (fun _ _ _ i => k - (intOf i).toNat)
  case atStart => exact ⟨0, by omega, rfl, rfl⟩
  case round =>
    obtain ⟨j, hj, rfl, rfl⟩ := hrel
    by_cases hlt : j < k
    · obtain ⟨ad', b, e', hb, hcell⟩ := Hs.out.get hlt
      obtain rfl : ad' = ad.add a := by cases e'; rfl
      clear e'
      have Hb := Lib.hid hb
      clear hb
      have hb0 := ub_lo b
      have hb1 := ub_hi b
      have hj0 : (0 : Int) ≤ (j : Int) := Int.natCast_nonneg _
      have hlj : (p.take j).length = j := by rw [List.length_take, Hs.out.len]; omega
      have Hor := Lib.hid (or_byte (p.take j) b (by omega))
      rw [hlj, ← take_snoc Hb.out] at Hor
      clear hlj
      go_wp2
      go_round
      case rel => exact ⟨j + 1, by omega, by go_num, by rw [← Hor.out]⟩
      case measure => simp [intOf]; omega
    · have e : j = k := by omega
      have ht : p.take j = p := List.take_of_length_le (by rw [Hs.out.len]; omega)
      rw [ht]
      clear ht
      by_cases hbig : unle p ≤ 9223372036854775807
      · have Hbig := Lib.hid hbig
        go_wp2
        go_ret2
        exact ⟨by rw [readRes_ok Hbig.out]; rfl, rfl⟩
      · have Hbig := Lib.hid hbig
        have hb2 : (9223372036854775807 : Int) < (unle p : Int) := by omega
        clear hbig
        go_wp2
        go_ret2
        exact ⟨by rw [readRes_big Hbig.out]; rfl, rfl⟩

/-- Arguments that may not be. -/
def ReadBad (n : Nat) (a k : Int) : Bool := decide (k < 1 ∨ 8 < k ∨ a < 0 ∨ (n : Int) < a)

theorem read_bad (A : Option Addr) (n c : Nat) (a k : Int) (w : World) (h : ReadBad n a k = true) :
    Calls Tryd.prog 47 #[.slice A n c, .int .i64 a, .int .i64 k] w fun e w' => e = .returned (.tuple #[.int .i64 0, .int .i64 1]) ∧ w = w' := by
  have h' : k < 1 ∨ 8 < k ∨ a < 0 ∨ (n : Int) < a := by simpa [ReadBad] using h
  clear h
  by_cases h1 : k < 1
  · clear h'
    go_enter Tryd.func47, Tryd.ntmps47
    go_wp2
    go_ret2
    exact ⟨rfl, rfl⟩
  · by_cases h8 : 8 < k
    · clear h'
      go_enter Tryd.func47, Tryd.ntmps47
      go_wp2
      go_ret2
      exact ⟨rfl, rfl⟩
    · by_cases h0 : a < 0
      · clear h'
        go_enter Tryd.func47, Tryd.ntmps47
        go_wp2
        go_ret2
        exact ⟨rfl, rfl⟩
      · have h2 : (n : Int) < a := by omega
        obtain ⟨j, rfl⟩ := Int.eq_ofNat_of_zero_le (show 0 ≤ a by omega)
        clear h'
        go_enter Tryd.func47, Tryd.ntmps47
        go_wp2
        go_ret2
        exact ⟨rfl, rfl⟩

theorem read_short (A : Option Addr) (n c a k : Nat) (w : World) (h1 : 1 ≤ k) (h8 : k ≤ 8) (ha : a ≤ n) (hk : n < a + k) :
    Calls Tryd.prog 47 #[.slice A n c, .int .i64 a, .int .i64 k] w fun e w' => e = .returned (.tuple #[.int .i64 0, .int .i64 110]) ∧ w = w' := by
  have h2 : (n : Int) - a < k := by omega
  go_enter Tryd.func47, Tryd.ntmps47
  go_wp2
  go_ret2
  exact ⟨rfl, rfl⟩

theorem rread_bad (A : Option Addr) (n c : Nat) (a k : Int) (w : World) (h : ReadBad n a k = true) :
    Calls Tryd.prog 49 #[.slice A n c, .int .i64 a, .int .i64 k] w fun e w' => e = .returned (.tuple #[.int .i64 0, .int .i64 1]) ∧ w = w' := by
  have h' : k < 1 ∨ 8 < k ∨ a < 0 ∨ (n : Int) < a := by simpa [ReadBad] using h
  clear h
  by_cases h1 : k < 1
  · clear h'
    go_enter Tryd.func49, Tryd.ntmps49
    go_wp2
    go_ret2
    exact ⟨rfl, rfl⟩
  · by_cases h8 : 8 < k
    · clear h'
      go_enter Tryd.func49, Tryd.ntmps49
      go_wp2
      go_ret2
      exact ⟨rfl, rfl⟩
    · by_cases h0 : a < 0
      · clear h'
        go_enter Tryd.func49, Tryd.ntmps49
        go_wp2
        go_ret2
        exact ⟨rfl, rfl⟩
      · have h2 : (n : Int) < a := by omega
        obtain ⟨j, rfl⟩ := Int.eq_ofNat_of_zero_le (show 0 ≤ a by omega)
        clear h'
        go_enter Tryd.func49, Tryd.ntmps49
        go_wp2
        go_ret2
        exact ⟨rfl, rfl⟩

theorem rread_short (A : Option Addr) (n c a k : Nat) (w : World) (h1 : 1 ≤ k) (h8 : k ≤ 8) (ha : a ≤ n) (hk : n < a + k) :
    Calls Tryd.prog 49 #[.slice A n c, .int .i64 a, .int .i64 k] w fun e w' => e = .returned (.tuple #[.int .i64 0, .int .i64 110]) ∧ w = w' := by
  have h2 : (n : Int) - a < k := by omega
  go_enter Tryd.func49, Tryd.ntmps49
  go_wp2
  go_ret2
  exact ⟨rfl, rfl⟩

theorem unle_big {p : List UInt8} {b : UInt8} (hp : p.length = 8) (hb : p[7]? = some b) : (unle p ≤ 9223372036854775807) ↔ b.toNat < 128 := by
  obtain ⟨q, hq⟩ : ∃ q, q = p.take 7 := ⟨_, rfl⟩
  have e : p = q ++ [b] := by
    rw [hq, ← take_snoc hb, List.take_of_length_le (by omega)]
  have hl : q.length = 7 := by rw [hq, List.length_take]; omega
  have h7 := unle_lt q
  rw [e, unle_snoc, hl]
  rw [hl] at h7
  have e7 : (256 : Nat) ^ 7 = 72057594037927936 := by decide
  have := b.toNat_lt
  rw [e7] at h7 ⊢
  omega
theorem unle_small {p : List UInt8} (hp : p.length < 8) : unle p ≤ 9223372036854775807 := by
  have h := unle_lt p
  have : ∀ i : Fin 8, 256 ^ i.val ≤ 9223372036854775808 := by decide
  have h2 : 256 ^ p.length ≤ 9223372036854775808 := this ⟨p.length, hp⟩
  omega
theorem unle_head {l : List UInt8} {k : Nat} {b : UInt8} (h : l[k]? = some b) : unle (l.drop k) = b.toNat + 256 * unle (l.drop (k + 1)) := by
  have hl := (List.getElem?_eq_some_iff.1 h)
  obtain ⟨h1, h2⟩ := hl
  rw [List.drop_eq_getElem_cons h1, h2]
  rfl
theorem unle_drop_le (p : List UInt8) (j : Nat) : unle (p.drop j) ≤ unle p := by
  induction j generalizing p with
  | zero => simp
  | succ j ih =>
    cases p with
    | nil => simp
    | cons c p =>
      simp only [List.drop_succ_cons]
      have := ih p
      simp only [unle]
      omega

set_option maxHeartbeats 400000 in
theorem rread_ok (A : Option Addr) (n c a k : Nat) (l : List UInt8) (w : World) (hb : Bs w A n l) (h1 : 1 ≤ k) (h8 : k ≤ 8) (hk : a + k ≤ n) :
    Calls Tryd.prog 49 #[.slice A n c, .int .i64 a, .int .i64 k] w fun e w' =>
      e = .returned (.tuple #[.int .i64 (readRes (unle ((l.drop a).take k))).1, .int .i64 (readRes (unle ((l.drop a).take k))).2]) ∧ w = w' := by
  obtain ⟨ad, c0, rfl, _, _⟩ := hb.get (k := a) (by omega)
  have hs := hb.sub a k hk
  obtain ⟨p, hp⟩ : ∃ p, p = (l.drop a).take k := ⟨_, rfl⟩
  rw [← hp] at hs ⊢
  have hn := hb.max
  have hpl : p.length = k := hs.len
  have hget : ∀ j, j < k → ∃ b, p[j]? = some b ∧ w.cell? (ad.add (a + j)) = some (.int .u8 (ub b)) := by
    intro j hj
    obtain ⟨ad', b, e', hb', hcell⟩ := hs.get hj
    obtain rfl : ad' = ad.add a := by cases e'; rfl
    exact ⟨b, hb', by rw [← Addr.add_add']; exact hcell⟩
  have Hg := Lib.hid hget
  have Hl := Lib.hid hpl
  have Hb := Lib.hid hb
  clear hs hb hp hget hpl
  by_cases hbig : unle p ≤ 9223372036854775807
  · have Hbig := Lib.hid hbig
    clear hbig
    by_cases hk8 : k = 8
    · obtain ⟨b7, hb7, hc7⟩ := Hg.out 7 (by omega)
      have hlt7 : ¬ (128 : Int) ≤ ub b7 := by
        have := (unle_big (by rw [Hl.out]; exact hk8) hb7).1 Hbig.out
        unfold ub; omega
      have ha0 : (0 : Int) ≤ (a : Int) + 7 := by omega
      have ha7 : (a : Int) + 7 < n := by omega
      have hc8 : w.cell? ⟨ad.block, ad.off + (a + 6 + 1), none⟩ = some (.int .u8 (ub b7)) := hc7
      have h8b : ((k : Int) == 8) = true := by simp; omega
      clear hb7 hk8
      go_enter Tryd.func49, Tryd.ntmps49
      go_wp2_with fail
      clear hc7 hc8 hlt7 ha0 ha7
      go_loop [8, 9] (fun x i => ∃ j : Nat, j ≤ k ∧ i = .int .i64 ((j : Int) - 1) ∧ x = .int .i64 (unle (p.drop j) : Nat)) (fun _ i => (intOf i + 1).toNat)
      case atStart => exact ⟨k, by omega, rfl, by rw [List.drop_eq_nil_of_le (by rw [Hl.out]; omega)]; rfl⟩
      case round =>
        obtain ⟨j, hj, rfl, rfl⟩ := hrel
        by_cases hlt : 0 < j
        · obtain ⟨b, hb1, hcell⟩ := Hg.out (j - 1) (by omega)
          have hun := unle_head hb1
          rw [show j - 1 + 1 = j from by omega] at hun
          have hle := unle_drop_le p (j - 1)
          obtain ⟨u, hu⟩ : ∃ u, u = unle (p.drop j) := ⟨_, rfl⟩
          rw [← hu] at hun
          rw [← hu]
          have hsum : 256 * (u : Int) + ub b ≤ 9223372036854775807 := by
            have := Hbig.out
            unfold ub; omega
          have hj0 : (0 : Int) ≤ (j : Int) - 1 := by omega
          have ha0 : (0 : Int) ≤ (a : Int) + ((j : Int) - 1) := by omega
          have ha1 : (a : Int) + ((j : Int) - 1) < n := by omega
          have hbl := ub_lo b
          have hbh := ub_hi b
          have Hres : Hid ((256 * (u : Int) + ub b) = ((unle (p.drop (j - 1)) : Nat) : Int)) := Lib.hid (by rw [hun]; unfold ub; omega)
          have et : ((a : Int) + ((j : Int) - 1)).toNat = a + (j - 1) := by omega
          clear hb1 hun hle hu
          go_wp2
          go_round
          case rel => exact ⟨j - 1, by omega, by go_num, by rw [← Hres.out]⟩
          case measure => simp [intOf]; omega
        · obtain rfl : j = 0 := by omega
          have Hf : Hid (unle (p.drop 0) = unle p) := Lib.hid (by rw [List.drop_zero])
          go_wp2
          go_ret2
          exact ⟨by rw [readRes_ok Hbig.out, ← Hf.out]; rfl, rfl⟩
    · have h8b : ((k : Int) == 8) = false := by simp; omega
      clear hk8
      go_enter Tryd.func49, Tryd.ntmps49
      go_wp2_with fail
      go_loop [8, 9] (fun x i => ∃ j : Nat, j ≤ k ∧ i = .int .i64 ((j : Int) - 1) ∧ x = .int .i64 (unle (p.drop j) : Nat)) (fun _ i => (intOf i + 1).toNat)
      case atStart => exact ⟨k, by omega, rfl, by rw [List.drop_eq_nil_of_le (by rw [Hl.out]; omega)]; rfl⟩
      case round =>
        obtain ⟨j, hj, rfl, rfl⟩ := hrel
        by_cases hlt : 0 < j
        · obtain ⟨b, hb1, hcell⟩ := Hg.out (j - 1) (by omega)
          have hun := unle_head hb1
          rw [show j - 1 + 1 = j from by omega] at hun
          have hle := unle_drop_le p (j - 1)
          obtain ⟨u, hu⟩ : ∃ u, u = unle (p.drop j) := ⟨_, rfl⟩
          rw [← hu] at hun
          rw [← hu]
          have hsum : 256 * (u : Int) + ub b ≤ 9223372036854775807 := by
            have := Hbig.out
            unfold ub; omega
          have hj0 : (0 : Int) ≤ (j : Int) - 1 := by omega
          have ha0 : (0 : Int) ≤ (a : Int) + ((j : Int) - 1) := by omega
          have ha1 : (a : Int) + ((j : Int) - 1) < n := by omega
          have hbl := ub_lo b
          have hbh := ub_hi b
          have Hres : Hid ((256 * (u : Int) + ub b) = ((unle (p.drop (j - 1)) : Nat) : Int)) := Lib.hid (by rw [hun]; unfold ub; omega)
          have et : ((a : Int) + ((j : Int) - 1)).toNat = a + (j - 1) := by omega
          clear hb1 hun hle hu
          go_wp2
          go_round
          case rel => exact ⟨j - 1, by omega, by go_num, by rw [← Hres.out]⟩
          case measure => simp [intOf]; omega
        · obtain rfl : j = 0 := by omega
          have Hf : Hid (unle (p.drop 0) = unle p) := Lib.hid (by rw [List.drop_zero])
          go_wp2
          go_ret2
          exact ⟨by rw [readRes_ok Hbig.out, ← Hf.out]; rfl, rfl⟩
  · have Hbig := Lib.hid hbig
    have hk8 : k = 8 := by
      rcases Nat.lt_or_ge k 8 with h | h
      · exact absurd (unle_small (by rw [Hl.out]; exact h)) hbig
      · omega
    obtain ⟨b7, hb7, hc7⟩ := Hg.out 7 (by omega)
    have hlt7 : (128 : Int) ≤ ub b7 := by
      have h9 : ¬ b7.toNat < 128 := fun h => hbig ((unle_big (by rw [Hl.out]; exact hk8) hb7).2 h)
      unfold ub; omega
    have ha0 : (0 : Int) ≤ (a : Int) + 7 := by omega
    have ha7 : (a : Int) + 7 < n := by omega
    have hc8 : w.cell? ⟨ad.block, ad.off + (a + 6 + 1), none⟩ = some (.int .u8 (ub b7)) := hc7
    have h8b : ((k : Int) == 8) = true := by simp; omega
    clear hb7 hk8 hbig
    go_enter Tryd.func49, Tryd.ntmps49
    go_wp2
    go_ret2
    exact ⟨by rw [readRes_big Hbig.out]; rfl, rfl⟩

end Go.Proofs.YteljopjaolegaaaDoor
