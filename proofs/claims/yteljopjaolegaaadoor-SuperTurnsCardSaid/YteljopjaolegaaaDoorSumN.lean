/-
  CONTRACTS: Number, of the program and of the reference.
-/
import Derived.Test.YteljopjaolegaaaDoorNum
import Derived.Test.YteljopjaolegaaaDoorProg
namespace Go.Proofs.YteljopjaolegaaaDoor
open Go.RowKit
set_option maxRecDepth 100000

theorem info_u8 : (Tryd.prog.info? 5).map (fun i => (i.zero, i.size, i.bytes)) = some (some (.int .u8 0), 1, 1) := by kernel_rfl

/-- The row that a number is written into, byte by byte. -/
theorem le_row (n k j : Nat) (h : j < k) : (bs (le j n) ++ List.replicate (k - j) (Value.int .u8 0)).set j (.int .u8 (ub (UInt8.ofNat (n / 256 ^ j % 256)))) = bs (le (j + 1) n) ++ List.replicate (k - (j + 1)) (Value.int .u8 0) := by
  rw [le_snoc, bs_append, show k - j = (k - (j + 1)) + 1 from by omega, List.replicate_succ, List.set_append_right _ _ (by rw [bs_length, le_length]; omega), List.append_assoc]
  congr 1
  rw [bs_length, le_length, Nat.sub_self]
  rfl

set_option maxHeartbeats 400000 in
theorem number_ok (n k : Nat) (w : World) (h1 : 1 ≤ k) (h8 : k ≤ 8) (hn : n ≤ 9223372036854775807) (hk : n < 256 ^ k) :
    Calls Tryd.prog 63 #[.int .i64 n, .int .i64 k] w fun e w' => ∃ v, e = .returned (.tuple #[v, .int .i64 0]) ∧ w'.ownsRow w.heap.size 5 1 v k (bs (le k n)) ∧ Below w.heap.size w w' := by
  have hsh : (n : Int) / 2 ^ (8 * k) = 0 := by rw [int_shr, Nat.div_eq_of_lt hk]; rfl
  have Hinfo := Lib.hid info_u8
  have Hm1 : Hid (1 * k ≤ 281474976710656) := Lib.hid (by omega)
  have Hm2 : Hid (k ≤ maxLen) := Lib.hid (by simp only [maxLen]; omega)
  obtain ⟨B, hB⟩ : ∃ B, B = w.heap.size := ⟨_, rfl⟩
  have HB := Lib.hid hB
  have HB2 : Hid (B ≤ w.heap.size) := Lib.hid (by omega)
  clear hB hk
  by_cases h : k < 8
  all_goals
    go_enter Tryd.func63, Tryd.ntmps63
    go_wp2_with (at_make; refine wpList_make_zeros rfl _ _ 31 rfl B 5 (.int .u8 0) 1 Tryd.underlying31 Hinfo.out rfl _ _ k rfl rfl rfl rfl Hm1.out Hm2.out HB2.out ?_; intro w1 Ho1 hb1; have Hb1 := Lib.hid hb1; clear hb1)
    clear hsh
    rw [← HB.out] at Ho1 Hb1 ⊢
    go_loopw [7, 33] (fun _ i wr => ∃ j : Nat, j ≤ k ∧ i = .int .i64 j ∧ wr.ownsRow B 5 1 (.slice (some ⟨B, 0, none⟩) k k) k (bs (le j n) ++ List.replicate (k - j) (.int .u8 0)) ∧ Below B w wr) (fun _ i _ => k - (intOf i).toNat)
    case atStart => exact ⟨0, by omega, rfl, by simpa [le, bs] using Ho1.out, Hb1.out⟩
    case round =>
      obtain ⟨j, hj, rfl, h2, h3⟩ := hrel
      have H2 := Lib.hid h2
      have H3 := Lib.hid h3
      clear h2 h3
      by_cases hlt : j < k
      · have hcell := H2.out.cellAt j (by omega)
        rw [List.getElem?_append_right (by rw [bs_length, le_length]; omega), bs_length, le_length, List.getElem?_replicate, if_pos (by omega)] at hcell
        have hfr := H2.out.frozenAt j
        have hby := byte_shr n j
        have hj0 : (0 : Int) ≤ (j : Int) := Int.natCast_nonneg _
        go_wp2
        go_roundw
        case rel => exact ⟨j + 1, by omega, by go_num, by rw [← le_row n k j hlt]; exact (H2.out.stored j _).1, H3.out.setCell (Nat.le_refl _) _⟩
        case measure => simp [intOf]; omega
      · have e : j = k := by omega
        have h4 := H2.out
        rw [e] at h4
        simp only [Nat.sub_self, List.replicate_zero, List.append_nil] at h4
        have H4 := Lib.hid h4
        clear e h4
        go_wp2
        go_ret2
        have hB := HB.out
        subst hB
        exact ⟨_, rfl, H4.out, H3.out⟩

/-- A number that does not fit, or a size that may not be. -/
theorem number_bad (n k : Int) (w : World) (h : NumOk n k = false) (hn : n ≤ 9223372036854775807) :
    Calls Tryd.prog 63 #[.int .i64 n, .int .i64 k] w fun e w' => e = .returned (.tuple #[.slice none 0 0, .int .i64 1]) ∧ w = w' := by
  by_cases h1 : k < 1
  · go_enter Tryd.func63, Tryd.ntmps63
    go_wp2
    go_ret2
    exact ⟨rfl, rfl⟩
  · by_cases h8 : 8 < k
    · go_enter Tryd.func63, Tryd.ntmps63
      go_wp2
      go_ret2
      exact ⟨rfl, rfl⟩
    · by_cases h0 : n < 0
      · go_enter Tryd.func63, Tryd.ntmps63
        go_wp2
        go_ret2
        exact ⟨rfl, rfl⟩
      · obtain ⟨j, rfl⟩ := Int.eq_ofNat_of_zero_le (show 0 ≤ k by omega)
        obtain ⟨m, rfl⟩ := Int.eq_ofNat_of_zero_le (show 0 ≤ n by omega)
        have hb : ¬ (m : Int) < 256 ^ j := by
          intro hlt
          simp [NumOk] at h
          have := h (by omega) (by omega)
          omega
        have hb2 : ¬ m < 256 ^ j := by
          intro hlt
          apply hb
          have : ((m : Nat) : Int) < ((256 ^ j : Nat) : Int) := by omega
          rwa [Int.natCast_pow] at this
        have hj : j < 8 := by
          rcases Nat.lt_or_ge j 8 with hj | hj
          · exact hj
          · obtain rfl : j = 8 := by omega
            have : (256 : Nat) ^ 8 = 18446744073709551616 := by decide
            omega
        have hsh : (0 : Int) < (m : Int) / 2 ^ (8 * j) := by
          rw [int_shr]
          have : 0 < m / 256 ^ j := Nat.div_pos (by omega) (Nat.pow_pos (by decide))
          omega
        clear h hb hb2
        go_enter Tryd.func63, Tryd.ntmps63
        go_wp2
        go_ret2
        exact ⟨rfl, rfl⟩

theorem byte_mod (m : Nat) : (m : Int) % 256 = ub (UInt8.ofNat (m % 256)) := by
  unfold ub
  rw [UInt8.toNat_ofNat']
  omega

set_option maxHeartbeats 400000 in
/-- The reference's Number: what it has when its loop is over. -/
theorem rnumber_nat (n k : Nat) (w : World) (h1 : 1 ≤ k) (h8 : k ≤ 8) (hn : n ≤ 9223372036854775807) :
    Calls Tryd.prog 66 #[.int .i64 n, .int .i64 k] w fun e w' => Below w.heap.size w w' ∧
      ((n < 256 ^ k ∧ ∃ v, e = .returned (.tuple #[v, .int .i64 0]) ∧ w'.ownsRow w.heap.size 5 1 v k (bs (le k n))) ∨ (¬ n < 256 ^ k ∧ e = .returned (.tuple #[.slice none 0 0, .int .i64 1]))) := by
  have Hinfo := Lib.hid info_u8
  obtain ⟨B, hB⟩ : ∃ B, B = w.heap.size := ⟨_, rfl⟩
  have HB := Lib.hid hB
  clear hB
  go_enter Tryd.func66, Tryd.ntmps66
  go_wp2_with fail
  go_loopw [0, 6, 7] (fun q v i wr => ∃ j : Nat, j ≤ k ∧ i = .int .i64 j ∧ q = .int .i64 ((n / 256 ^ j : Nat) : Int) ∧ wr.ownsRow B 5 1 v j (bs (le j n)) ∧ Below B w wr) (fun _ _ i _ => k - (intOf i).toNat)
  case atStart => exact ⟨0, by omega, rfl, by simp, World.ownsRow_nil _ _ _ _, Below.refl _ _⟩
  case round =>
    obtain ⟨j, hj, rfl, rfl, h2, h3⟩ := hrel
    have H2 := Lib.hid h2
    have H3 := Lib.hid h3
    clear h2 h3
    obtain ⟨m, hm⟩ : ∃ m, m = n / 256 ^ j := ⟨_, rfl⟩
    have hmn : m ≤ n := by rw [hm]; exact Nat.div_le_self _ _
    rw [← hm]
    have Hm := Lib.hid hm
    clear hm
    by_cases hlt : j < k
    · have hby := byte_mod m
      have Hc1 : Hid (j + 1 ≤ maxLen) := Lib.hid (by simp only [maxLen]; omega)
      have Hc2 : Hid ((j + 1) * 1 ≤ 140737488355328) := Lib.hid (by omega)
      have Hc3 : Hid (B ≤ wr.heap.size) := Lib.hid (by rw [HB.out]; exact H3.out.size)
      go_wp2_with (with_reducible refine wpList_append_one rfl _ _ 31 rfl B 5 (.int .u8 0) 1 Tryd.underlying31 Hinfo.out rfl u6 j (bs (le j n)) (.int .u8 (ub (UInt8.ofNat (m % 256)))) rfl H2.out rfl rfl Hc1.out Hc2.out Hc3.out ?_; intro v' w9 hown9 hg9 hl9)
      have Hr : Hid (w9.ownsRow B 5 1 v' (j + 1) (bs (le (j + 1) n))) := Lib.hid (by rw [le_snoc, bs_append, ← Hm.out]; exact hown9)
      have Hb9 : Hid (Below B w w9) := Lib.hid (H3.out.grown hg9 Hc3.out (fun i hi => (H2.out.lt i hi).1))
      have Hq : Hid (m / 256 = n / 256 ^ (j + 1)) := Lib.hid (by rw [Hm.out, Nat.div_div_eq_div_mul, Nat.pow_succ])
      clear hown9 hg9 hl9
      go_wp2
      go_roundw
      case rel => exact ⟨j + 1, by omega, by go_num, by rw [← Hq.out]; rfl, Hr.out, Hb9.out⟩
      case measure => simp [intOf]; omega
    · have e : j = k := by omega
      have h4 := H2.out
      have hm := Hm.out
      rw [e] at h4 hm
      have H4 := Lib.hid h4
      have Hm2 := Lib.hid hm
      clear e h4 hm
      by_cases hz : 0 < m
      · have Hno : Hid (¬ n < 256 ^ k) := Lib.hid (fun hlt => by have := Hm2.out; rw [Nat.div_eq_of_lt hlt] at this; omega)
        go_wp2
        go_ret2
        have hB := HB.out
        subst hB
        exact ⟨H3.out, .inr ⟨Hno.out, rfl⟩⟩
      · have Hyes : Hid (n < 256 ^ k) := Lib.hid (by
          have h0 : n / 256 ^ k = 0 := by have := Hm2.out; omega
          rcases Nat.div_eq_zero_iff.1 h0 with h | h
          · have := Nat.pow_pos (n := k) (show 0 < 256 by decide); omega
          · exact h)
        go_wp2
        go_ret2
        have hB := HB.out
        subst hB
        exact ⟨H3.out, .inl ⟨Hyes.out, _, rfl, H4.out⟩⟩

end Go.Proofs.YteljopjaolegaaaDoor
