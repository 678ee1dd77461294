/-
  CONTRACTS: the reference's joining.
-/
import Derived.Test.YtmmbofgamipfiaaDoorSumJ
namespace Go.Proofs.YtmmbofgamipfiaaDoor
open Go.RowKit

theorem rjoin_bad (x y n : Int) (w : World) (h : MayB x = false ∨ MayB y = false ∨ n < 0) :
    Calls Tryd.prog 18 #[.int .i64 x, .int .i64 y, .int .i64 n] w fun e w' => e = .returned (.tuple #[.int .i64 0, .int .i64 1]) ∧ w = w' := by
  cases hx : MayB x with
  | false =>
    cases hy : MayB y with
    | false =>
      go_enter Tryd.func18, Tryd.ntmps18
      go_wp2_with (go_at_call 25; refine (rmay_any _ _).mono ?_; rintro e w' ⟨rfl, rfl⟩)
      go_ret2
      exact ⟨rfl, rfl⟩
    | true =>
      go_enter Tryd.func18, Tryd.ntmps18
      go_wp2_with (go_at_call 25; refine (rmay_any _ _).mono ?_; rintro e w' ⟨rfl, rfl⟩)
      go_ret2
      exact ⟨rfl, rfl⟩
  | true =>
    cases hy : MayB y with
    | false =>
      go_enter Tryd.func18, Tryd.ntmps18
      go_wp2_with (go_at_call 25; refine (rmay_any _ _).mono ?_; rintro e w' ⟨rfl, rfl⟩)
      go_ret2
      exact ⟨rfl, rfl⟩
    | true =>
      have hn : n < 0 := by simpa [hx, hy] using h
      clear h
      go_enter Tryd.func18, Tryd.ntmps18
      go_wp2_with (go_at_call 25; refine (rmay_any _ _).mono ?_; rintro e w' ⟨rfl, rfl⟩)
      go_ret2
      exact ⟨rfl, rfl⟩

/-- Words as cells. -/
def ws (m : List (BitVec 32)) : List Value := m.map fun x => .int .u32 (ui x)
theorem ws_snoc {m : List (BitVec 32)} {k : Nat} {x : BitVec 32} (h : m[k]? = some x) : ws (m.take k) ++ [.int .u32 (ui x)] = ws (m.take (k + 1)) := by
  rw [take_snoc h]; simp [ws]
theorem own_words {w : World} {base : Nat} {e : TypeId} {v : Value} {n : Nat} {m : List (BitVec 32)} (h : w.ownsRow base e 1 v n (ws m)) :
    ∃ A c, v = .slice A n c ∧ Ws w A n m := by
  have hl : m.length = n := by have := h.1; simp [ws] at this; exact this
  rcases h.2 with ⟨rfl, rfl⟩ | ⟨g, cap, cur, rfl, hb, hg, hn, hc, hs, ht⟩
  · exact ⟨none, 0, rfl, hl, by omega, fun j c hj => by
      have := (List.getElem?_eq_some_iff.1 hj).1
      omega⟩
  · refine ⟨_, cap, rfl, hl, by simp only [maxLen] at hc; omega, fun j c hj => ⟨_, rfl, ?_⟩⟩
    exact h.cells (g := g) rfl j _ (by simp [ws, hj])

theorem info_u32 : (Tryd.prog.info? 44).map (fun i => (i.zero, i.size, i.bytes)) = some (some (.int .u32 0), 1, 4) := by kernel_rfl

theorem twice_get {m : List (BitVec 32)} (hm : m.length = 32) {j : Nat} (hj : j < 32) : (Crc.twice m)[j]? = some (Crc.of m (m.getD j 0#32)) := by
  rw [Crc.twice, List.getElem?_map, List.getD_eq_getElem?_getD, List.getElem?_eq_getElem (by omega)]
  rfl

theorem odd_mod {k : Nat} (h : (k % 2 == 1) = true) : ((k : Int) % 2 == 1) = true := by
  have h1 : k % 2 = 1 := by simpa using h
  have h2 : (k : Int) % 2 = 1 := by omega
  rw [h2]; rfl
theorem even_mod {k : Nat} (h : (k % 2 == 1) = false) : ((k : Int) % 2 == 1) = false := by
  have h1 : ¬ k % 2 = 1 := by simpa using h
  have h2 : (k : Int) % 2 = 0 := by omega
  rw [h2]; rfl

/-- Eight turns of each bit. -/
def eight : List (BitVec 32) := (List.range 32).map fun i => Crc.turns 8 (1#32 <<< i)
theorem eight_tells : Crc.Tells (Crc.turns 8) eight := by
  refine ⟨by simp [eight], fun i hi => ?_⟩
  simp [eight, List.getD_eq_getElem?_getD, hi]
theorem eight_get {k : Nat} (h : k < 32) : eight[k]? = some (Crc.turns 8 (1#32 <<< k)) := by
  simp [eight, h]

set_option maxRecDepth 100000 in
theorem rjoin_ok (x y : BitVec 32) (n : Nat) (w : World) (hn : n ≤ 9223372036854775807) :
    Calls Tryd.prog 18 #[.int .i64 (ui x), .int .i64 (ui y), .int .i64 n] w fun e w' => e = .returned (.tuple #[.int .i64 (ui (Crc.join x y n)), .int .i64 0]) ∧ Below w.heap.size w w' := by
  have hx := mayB_ui x
  have hy := mayB_ui y
  have hx0 := ui_lo x
  have hx1 := ui_hi x
  have hy0 := ui_lo y
  have hy1 := ui_hi y
  have Hinfo := Lib.hid info_u32
  obtain ⟨B, hB⟩ : ∃ B, B = w.heap.size := ⟨_, rfl⟩
  have HB := Lib.hid hB
  clear hB
  go_enter Tryd.func18, Tryd.ntmps18
  go_wp2_with (first | (go_at_call 25; refine (rmay_any _ _).mono ?_; rintro e w' ⟨rfl, rfl⟩))
  go_loopw [10, 11, 12] (fun v i _ wr => ∃ k : Nat, k ≤ 32 ∧ i = .int .i64 k ∧ wr.ownsRow B 44 1 v k (ws (eight.take k)) ∧ Below B w wr) (fun _ i _ _ => 32 - (intOf i).toNat)
  case atStart => exact ⟨0, by omega, rfl, World.ownsRow_nil _ _ _ _, Below.refl _ _⟩
  case round =>
    obtain ⟨k, hk, rfl, h1, h2⟩ := hrel
    have H1 := Lib.hid h1
    have H2 := Lib.hid h2
    clear h1 h2
    by_cases hlt : k < 32
    · have hk0 : (0 : Int) ≤ (k : Int) := Int.natCast_nonneg _
      have hk32 : (k : Int) < 32 := by omega
      have hsh := shl_bit hlt
      have Hc1 : Hid (k + 1 ≤ maxLen) := Lib.hid (by simp only [maxLen]; omega)
      have Hc2 : Hid ((k + 1) * 4 ≤ 140737488355328) := Lib.hid (by omega)
      have Hc3 : Hid (B ≤ wr.heap.size) := Lib.hid (by rw [HB.out]; exact H2.out.size)
      go_wp2_with (first | (go_at_call 26; refine (turns_any _ 8 _ (by omega)).mono ?_; rintro e w' ⟨rfl, rfl⟩) | (with_reducible refine wpList_append_one rfl _ _ 52 rfl B 44 (.int .u32 0) 4 Tryd.underlying52 Hinfo.out rfl u10 k (ws (eight.take k)) (.int .u32 (ui (Crc.turns 8 (1#32 <<< k)))) rfl H1.out rfl rfl Hc1.out Hc2.out Hc3.out ?_; intro v' w9 hown9 hg9 hl9))
      have Hr : Hid (w9.ownsRow B 44 1 v' (k + 1) (ws (eight.take (k + 1)))) := Lib.hid (by rw [← ws_snoc (eight_get hlt)]; exact hown9)
      have Hb9 : Hid (Below B w w9) := Lib.hid (H2.out.grown hg9 Hc3.out (fun j hj => (H1.out.lt j hj).1))
      clear hown9 hg9 hl9
      go_wp2
      go_roundw
      case rel => exact ⟨k + 1, by omega, by go_num, Hr.out, Hb9.out⟩
      case measure => simp [intOf]; omega
    · obtain ⟨k0, hk0⟩ : ∃ k0, k0 = k := ⟨_, rfl⟩
      have e32 : k = 32 := by omega
      have h3 := H1.out
      rw [e32, List.take_of_length_le (by simp [eight])] at h3
      have hge : 32 ≤ k0 := by omega
      subst hk0
      clear e32
      obtain ⟨A, c, rfl, hW⟩ := own_words h3
      have HW := Lib.hid hW
      clear h3 hW H1 hlt
      go_wp2_with fail
      go_loopw [10, 13, 14, 15, 16, 2] (fun v r _ _ _ i wl => ∃ (k T c : Nat) (A : Option Addr) (m : List (BitVec 32)) (z : BitVec 32), k ≤ n ∧ i = .int .i64 k ∧ v = .slice A 32 c ∧ r = .int .u32 (ui z) ∧ Ws wl A 32 m ∧ Crc.Tells (Crc.turns T) m ∧ Crc.turns (T * k) z = Crc.turns (8 * n) x ∧ Below B w wl) (fun _ _ _ _ _ i _ => (intOf i).toNat)
      case atStart => exact ⟨n, 8, c, A, eight, x, by omega, rfl, rfl, rfl, HW.out, eight_tells, rfl, H2.out⟩
      case round =>
        obtain ⟨wl, rfl⟩ : ∃ wl : World, wl = wr := ⟨_, rfl⟩
        obtain ⟨k, T, c, A, m, z, hk, rfl, rfl, rfl, h1, h2, h3, h4⟩ := hrel
        have K1 := Lib.hid h1
        have K2 := Lib.hid h2
        have K3 := Lib.hid h3
        have K4 := Lib.hid h4
        clear h1 h2 h3 h4 HW H2
        have hz0 := ui_lo z
        have hz1 := ui_hi z
        by_cases hlt : 0 < k
        · cases hq : (k % 2 == 1) with
          | true =>
            have hodd := odd_mod hq
            have HS : Hid (Crc.turns (2 * T * (k / 2)) (Crc.of m z) = Crc.turns (8 * n) x) := by
              refine Lib.hid ?_
              rw [← K3.out, Crc.of_tells (Crc.lin_turns T) K2.out, ← Crc.turns_add]
              congr 1
              have : k = k % 2 + 2 * (k / 2) := by omega
              have h1 : k % 2 = 1 := by simpa using hq
              rw [h1] at this
              conv => rhs; rw [this]
              rw [Nat.mul_add, Nat.mul_one, ← Nat.mul_assoc, Nat.mul_comm T 2]
            clear hq
            obtain ⟨B2, hB2⟩ : ∃ B2, B2 = wl.heap.size := ⟨_, rfl⟩
            have HB2 := Lib.hid hB2
            clear hB2
            go_wp2_with (first | (go_at_call 30; refine (times_any _ _ m z _ K1.out).mono ?_; rintro e w' ⟨rfl, rfl⟩))
            have HKB : Hid (B2 ≤ wl.heap.size) := Lib.hid (by rw [HB2.out]; exact Nat.le_refl _)
            go_loopw [14, 15, 16] (fun v i _ wi => ∃ j : Nat, j ≤ 32 ∧ i = .int .i64 j ∧ wi.ownsRow B2 44 1 v j (ws ((Crc.twice m).take j)) ∧ Below B2 wl wi) (fun _ i _ _ => 32 - (intOf i).toNat)
            case atStart => exact ⟨0, by omega, rfl, World.ownsRow_nil _ _ _ _, Below.refl _ _⟩
            case round =>
              obtain ⟨wi, rfl⟩ : ∃ wi : World, wi = wr := ⟨_, rfl⟩
              obtain ⟨j, hj, rfl, h1, h2⟩ := hrel
              have J1 := Lib.hid h1
              have J2 := Lib.hid h2
              have K1w := Lib.hid (K1.out.below (HB2.out ▸ h2))
              clear h1 h2
              by_cases hlt2 : j < 32
              · have hj0 : (0 : Int) ≤ (j : Int) := Int.natCast_nonneg _
                have hj32 : (j : Int) < 32 := by omega
                obtain ⟨ad, rfl, hcell⟩ := K1w.out.get hlt2
                obtain ⟨q, hq⟩ : ∃ q, q = m.getD j 0#32 := ⟨_, rfl⟩
                rw [← hq] at hcell
                have Hq := Lib.hid hq
                clear hq
                have Hc1 : Hid (j + 1 ≤ maxLen) := Lib.hid (by simp only [maxLen]; omega)
                have Hc2 : Hid ((j + 1) * 4 ≤ 140737488355328) := Lib.hid (by omega)
                have Hc3 : Hid (B2 ≤ wi.heap.size) := Lib.hid (Nat.le_trans HKB.out J2.out.size)
                go_wp2_with (first | (go_at_call 30; refine (times_any _ _ m q _ K1w.out).mono ?_; rintro e w' ⟨rfl, rfl⟩) | (with_reducible refine wpList_append_one rfl _ _ 52 rfl B2 44 (.int .u32 0) 4 Tryd.underlying52 Hinfo.out rfl u14 j (ws ((Crc.twice m).take j)) (.int .u32 (ui (Crc.of m q))) rfl J1.out rfl rfl Hc1.out Hc2.out Hc3.out ?_; intro v' w9 hown9 hg9 hl9))
                have Hr : Hid (w9.ownsRow B2 44 1 v' (j + 1) (ws ((Crc.twice m).take (j + 1)))) := Lib.hid (by rw [← ws_snoc (twice_get K2.out.1 hlt2), ← Hq.out]; exact hown9)
                have Hb9 : Hid (Below B2 wl w9) := Lib.hid (J2.out.grown hg9 Hc3.out (fun i hi => (J1.out.lt i hi).1))
                clear hown9 hg9 hl9
                go_wp2
                go_roundw
                case rel => exact ⟨j + 1, by omega, by go_num, Hr.out, Hb9.out⟩
                case measure => simp [intOf]; omega
              · have e32 : j = 32 := by omega
                have h3 := J1.out
                rw [e32, List.take_of_length_le (by simp [Crc.twice, K2.out.1])] at h3
                clear e32
                obtain ⟨A', c', rfl, hW⟩ := own_words h3
                have HW' := Lib.hid hW
                clear h3 hW J1
                have HKK := Lib.hid (K4.out.trans (J2.out.mono (by have := K4.out.size; rw [HB.out, HB2.out]; exact this)))
                go_wp2
                go_roundw
                case rel => exact ⟨k / 2, 2 * T, c', A', Crc.twice m, Crc.of m z, by omega, by go_num, rfl, rfl, HW'.out, Crc.twice_turns K2.out, HS.out, HKK.out⟩
                case measure => simp [intOf]; omega
          | false =>
            have hodd := even_mod hq
            have HS : Hid (Crc.turns (2 * T * (k / 2)) z = Crc.turns (8 * n) x) := by
              refine Lib.hid ?_
              rw [← K3.out]
              congr 1
              have : k = k % 2 + 2 * (k / 2) := by omega
              have h0 : ¬ k % 2 = 1 := by simpa using hq
              have h1 : k % 2 = 0 := by omega
              rw [h1, Nat.zero_add] at this
              conv => rhs; rw [this]
              rw [← Nat.mul_assoc, Nat.mul_comm T 2]
            clear hq
            obtain ⟨B2, hB2⟩ : ∃ B2, B2 = wl.heap.size := ⟨_, rfl⟩
            have HB2 := Lib.hid hB2
            clear hB2
            go_wp2_with fail
            have HKB : Hid (B2 ≤ wl.heap.size) := Lib.hid (by rw [HB2.out]; exact Nat.le_refl _)
            go_loopw [14, 15, 16] (fun v i _ wi => ∃ j : Nat, j ≤ 32 ∧ i = .int .i64 j ∧ wi.ownsRow B2 44 1 v j (ws ((Crc.twice m).take j)) ∧ Below B2 wl wi) (fun _ i _ _ => 32 - (intOf i).toNat)
            case atStart => exact ⟨0, by omega, rfl, World.ownsRow_nil _ _ _ _, Below.refl _ _⟩
            case round =>
              obtain ⟨wi, rfl⟩ : ∃ wi : World, wi = wr := ⟨_, rfl⟩
              obtain ⟨j, hj, rfl, h1, h2⟩ := hrel
              have J1 := Lib.hid h1
              have J2 := Lib.hid h2
              have K1w := Lib.hid (K1.out.below (HB2.out ▸ h2))
              clear h1 h2
              by_cases hlt2 : j < 32
              · have hj0 : (0 : Int) ≤ (j : Int) := Int.natCast_nonneg _
                have hj32 : (j : Int) < 32 := by omega
                obtain ⟨ad, rfl, hcell⟩ := K1w.out.get hlt2
                obtain ⟨q, hq⟩ : ∃ q, q = m.getD j 0#32 := ⟨_, rfl⟩
                rw [← hq] at hcell
                have Hq := Lib.hid hq
                clear hq
                have Hc1 : Hid (j + 1 ≤ maxLen) := Lib.hid (by simp only [maxLen]; omega)
                have Hc2 : Hid ((j + 1) * 4 ≤ 140737488355328) := Lib.hid (by omega)
                have Hc3 : Hid (B2 ≤ wi.heap.size) := Lib.hid (Nat.le_trans HKB.out J2.out.size)
                go_wp2_with (first | (go_at_call 30; refine (times_any _ _ m q _ K1w.out).mono ?_; rintro e w' ⟨rfl, rfl⟩) | (with_reducible refine wpList_append_one rfl _ _ 52 rfl B2 44 (.int .u32 0) 4 Tryd.underlying52 Hinfo.out rfl u14 j (ws ((Crc.twice m).take j)) (.int .u32 (ui (Crc.of m q))) rfl J1.out rfl rfl Hc1.out Hc2.out Hc3.out ?_; intro v' w9 hown9 hg9 hl9))
                have Hr : Hid (w9.ownsRow B2 44 1 v' (j + 1) (ws ((Crc.twice m).take (j + 1)))) := Lib.hid (by rw [← ws_snoc (twice_get K2.out.1 hlt2), ← Hq.out]; exact hown9)
                have Hb9 : Hid (Below B2 wl w9) := Lib.hid (J2.out.grown hg9 Hc3.out (fun i hi => (J1.out.lt i hi).1))
                clear hown9 hg9 hl9
                go_wp2
                go_roundw
                case rel => exact ⟨j + 1, by omega, by go_num, Hr.out, Hb9.out⟩
                case measure => simp [intOf]; omega
              · have e32 : j = 32 := by omega
                have h3 := J1.out
                rw [e32, List.take_of_length_le (by simp [Crc.twice, K2.out.1])] at h3
                clear e32
                obtain ⟨A', c', rfl, hW⟩ := own_words h3
                have HW' := Lib.hid hW
                clear h3 hW J1
                have HKK := Lib.hid (K4.out.trans (J2.out.mono (by have := K4.out.size; rw [HB.out, HB2.out]; exact this)))
                go_wp2
                go_roundw
                case rel => exact ⟨k / 2, 2 * T, c', A', Crc.twice m, z, by omega, by go_num, rfl, rfl, HW'.out, Crc.twice_turns K2.out, HS.out, HKK.out⟩
                case measure => simp [intOf]; omega
        · obtain rfl : k = 0 := by omega
          have Hf : Hid (z ^^^ y = Crc.join x y n) := by
            have := K3.out
            rw [Nat.mul_zero] at this
            refine Lib.hid ?_
            rw [Crc.join, ← this]; rfl
          have hq0 := ui_lo (z ^^^ y)
          have hq1 := ui_hi (z ^^^ y)
          go_wp2
          go_ret2
          refine ⟨?_, by have := K4.out; rwa [HB.out] at this⟩
          rw [← Hf.out]; rfl

end Go.Proofs.YtmmbofgamipfiaaDoor
