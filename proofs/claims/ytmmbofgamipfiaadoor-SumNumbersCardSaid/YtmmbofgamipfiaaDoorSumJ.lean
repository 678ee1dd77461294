/-
  CONTRACTS: joining two sums, of the program and of the reference.
-/
import Derived.Test.YtmmbofgamipfiaaDoorSumM
namespace Go.Proofs.YtmmbofgamipfiaaDoor
open Go.RowKit

theorem row_out {w : World} {g : Nat} {m : List (BitVec 32)} (h : Row w g m) : Hid (w.heap[g]? = some (.cells (mc m) 49 (0, 0))) := Lib.hid h
theorem mc_info {m : List (BitVec 32)} (h : m.length = 32) : Hid ((Tryd.prog.info? 49).map (·.size) = some (mc m).size) := Lib.hid (by rw [mc_size, matrix_size, h])
theorem mc_same {m m' : List (BitVec 32)} (h : m.length = 32) (h' : m'.length = 32) : Hid ((mc m).size = (mc m').size) := Lib.hid (by rw [mc_size, mc_size, h, h'])

theorem join_bad (x y n : Int) (w : World) (h : MayB x = false ∨ MayB y = false ∨ n < 0) :
    Calls Tryd.prog 17 #[.int .i64 x, .int .i64 y, .int .i64 n] w fun e w' => e = .returned (.tuple #[.int .i64 0, .int .i64 1]) ∧ w = w' := by
  cases hx : MayB x with
  | false =>
    go_enter Tryd.func17, Tryd.ntmps17
    go_wp2_with (go_at_call 24; refine (may_any _ _).mono ?_; rintro e w' ⟨rfl, rfl⟩)
    go_ret2
    exact ⟨rfl, rfl⟩
  | true =>
    cases hy : MayB y with
    | false =>
      go_enter Tryd.func17, Tryd.ntmps17
      go_wp2_with (go_at_call 24; refine (may_any _ _).mono ?_; rintro e w' ⟨rfl, rfl⟩)
      go_ret2
      exact ⟨rfl, rfl⟩
    | true =>
      have hn : n < 0 := by simpa [hx, hy] using h
      clear h
      go_enter Tryd.func17, Tryd.ntmps17
      go_wp2_with (go_at_call 24; refine (may_any _ _).mono ?_; rintro e w' ⟨rfl, rfl⟩)
      go_ret2
      exact ⟨rfl, rfl⟩

theorem wraps_i64 (n : Int) (h0 : 0 ≤ n) (h1 : n < 2 ^ 63) : IntKind.i64.wrap n = n := by
  rw [IntKind.wrap_i64]
  have : (2 : Int) ^ 63 = 9223372036854775808 := by decide
  omega
theorem odd_int (k : Nat) (h : k ≤ 9223372036854775807) : (bits .and .i64 (k : Int) 1 == 1) = (k % 2 == 1) := by
  have hp : (2 : Nat) ^ 63 = 9223372036854775808 := by decide
  have e : bits .and .i64 (k : Int) ((1 : Nat) : Int) = ((k &&& 1 : Nat) : Int) := (bits_nat .i64 63 (by decide) wraps_i64 k 1 (by omega) (by decide)).1
  have e1 : bits .and .i64 (k : Int) 1 = ((k % 2 : Nat) : Int) := by rw [← nat_mask1]; exact e
  rw [e1]
  rcases Nat.mod_two_eq_zero_or_one k with h | h <;> rw [h] <;> rfl

theorem below_len {w wr w3 w4 w5 : World} {g : Nat} (h5 : Below w.heap.size w wr) (h3 : Below wr.heap.size wr w3) (h4 : Below w3.heap.size w3 w4) (hg : w4.grownBy w5 (some g)) : w.heap.size ≤ w5.heap.size :=
  Nat.le_trans h5.size (Nat.le_trans h3.size (Nat.le_trans h4.size hg.size))
theorem below_six {w wr w3 w4 w5 w6 : World} {g : Nat} (h1 : w.heap.size ≤ g) (h5 : Below w.heap.size w wr) (h3 : Below wr.heap.size wr w3) (h4 : Below w3.heap.size w3 w4) (hg : w4.grownBy w5 (some g)) (h6 : Below w5.heap.size w5 w6) : Below w.heap.size w w6 := by
  have a := (h5.trans (h3.mono h5.size)).trans (h4.mono (Nat.le_trans h5.size h3.size))
  have b := a.grown hg (Nat.le_trans h5.size (Nat.le_trans h3.size h4.size)) (fun k hk => by cases hk; exact h1)
  exact b.trans (h6.mono (below_len h5 h3 h4 hg))

set_option maxRecDepth 100000 in
theorem join_ok (x y : BitVec 32) (n : Nat) (w : World) (hn : n ≤ 9223372036854775807) :
    Calls Tryd.prog 17 #[.int .i64 (ui x), .int .i64 (ui y), .int .i64 n] w fun e w' => e = .returned (.tuple #[.int .i64 (ui (Crc.join x y n)), .int .i64 0]) ∧ Below w.heap.size w w' := by
  have hu := Tryd.underlying49
  have hx := mayB_ui x
  have hy := mayB_ui y
  have hx0 := ui_lo x
  have hx1 := ui_hi x
  have hy0 := ui_lo y
  have hy1 := ui_hi y
  obtain ⟨M0, hM0⟩ : ∃ M, M = Crc.twice (Crc.twice (Crc.twice Crc.one)) := ⟨_, rfl⟩
  have hT0 : Crc.Tells (Crc.turns 8) M0 := by
    rw [hM0]
    exact Crc.twice_turns (Crc.twice_turns (Crc.twice_turns Crc.one_tells))
  have HT0 := Lib.hid hT0
  have hbf := fun w => byteful_any w
  rw [← hM0] at hbf
  have HBF := Lib.hid hbf
  clear hT0 hM0 hbf
  go_enter Tryd.func17, Tryd.ntmps17
  have Hn0 : Hid ((mc M0).size = 32) := Lib.hid (by rw [mc_size]; exact HT0.out.1)
  have Hi := Lib.hid matrix_size
  have Hm0 := Lib.hid (mc_one M0)
  go_wp2_with (first | (go_at_call 24; refine (may_any _ _).mono ?_; rintro e w' ⟨rfl, rfl⟩) | (go_at_call 27; refine (HBF.out _).mono ?_; rintro e w1 ⟨rfl, hb1⟩; have Hb1 := Lib.hid hb1; clear hb1) | (with_reducible refine wpList_store_new rfl 49 _ _ rfl (mc M0) _ 49 rfl rfl 32 rfl Hn0.out Hi.out Hm0.out ?_; intro w2 Hr2 hb2; have Hb2 := Lib.hid hb2; clear hb2))
  have H0 : Hid (Row w2 w1.heap.size M0 ∧ w.heap.size ≤ w1.heap.size ∧ Below w.heap.size w w2) := Lib.hid ⟨Hr2.out, Hb1.out.size, Hb1.out.trans (Hb2.out.mono Hb1.out.size)⟩
  clear Hr2 Hb1 Hb2 HBF Hn0 Hm0
  obtain ⟨g0, hg0⟩ : ∃ g, g = w1.heap.size := ⟨_, rfl⟩
  rw [← hg0] at H0
  rw [← hg0]
  clear hg0
  simp only [Act.put, go_sem]
  go_loopw [8, 9, 2] (fun r p i wr => ∃ (k g T : Nat) (m : List (BitVec 32)) (z : BitVec 32), k ≤ n ∧ i = .int .i64 k ∧ p = .pointer (some ⟨g, 0, none⟩) ∧ r = .int .u32 (ui z) ∧ w.heap.size ≤ g ∧ Row wr g m ∧ Crc.Tells (Crc.turns T) m ∧ Crc.turns (T * k) z = Crc.turns (8 * n) x ∧ Below w.heap.size w wr) (fun _ _ i _ => (intOf i).toNat)
  case atStart => exact ⟨n, g0, 8, M0, x, by omega, rfl, rfl, rfl, H0.out.2.1, H0.out.1, HT0.out, rfl, H0.out.2.2⟩
  case round =>
    obtain ⟨k, g, T, m, z, hk, rfl, rfl, rfl, h1, h2, h3, h4, h5⟩ := hrel
    have H1 := Lib.hid h1
    have H2 := Lib.hid h2
    have H3 := Lib.hid h3
    have H4 := Lib.hid h4
    have H5 := Lib.hid h5
    clear h1 h2 h3 h4 h5 H0 HT0
    by_cases hlt : 0 < k
    · have hz0 := ui_lo z
      have hz1 := ui_hi z
      have hml : m.length = 32 := H3.out.1
      have Hml := Lib.hid hml
      have Hml2 : Hid ((Crc.twice m).length = 32) := Lib.hid (by simp [Crc.twice, hml])
      have H2o := row_out H2.out
      have Hi1 := mc_info hml
      have Hi2 := mc_info Hml2.out
      have Hm2 := Lib.hid (mc_one (Crc.twice m))
      have Hsm := mc_same hml Hml2.out
      have Hn2 : Hid ((mc (Crc.twice m)).size = 32) := Lib.hid (by rw [mc_size]; exact Hml2.out)
      clear hml
      have hodd := odd_int k (by omega)
      cases hq : (k % 2 == 1) with
      | true =>
        rw [hq] at hodd
        have HS : Hid (Crc.turns (2 * T * (k / 2)) (Crc.of m z) = Crc.turns (8 * n) x) := by
          refine Lib.hid ?_
          rw [← H4.out, Crc.of_tells (Crc.lin_turns T) H3.out, ← Crc.turns_add]
          congr 1
          have : k = k % 2 + 2 * (k / 2) := by omega
          have h1 : k % 2 = 1 := by simpa using hq
          rw [h1] at this
          conv => rhs; rw [this]
          rw [Nat.mul_add, Nat.mul_one, ← Nat.mul_assoc, Nat.mul_comm T 2]
        clear hq
        go_wp2_with (first | (with_reducible refine wpList_load_row rfl 49 _ rfl g rfl 49 (mc m) (0, 0) _ H2o.out hu rfl Hi1.out ?_) | (go_at_call 28; refine (of_any m Hml.out z _).mono ?_; rintro e w3 ⟨rfl, hb3⟩; have Hw3 := row_out (H2.out.below hb3 H2.out.lt); have Hb3 := Lib.hid hb3; clear hb3) | (with_reducible refine wpList_load_row rfl 49 _ rfl g rfl 49 (mc m) (0, 0) _ Hw3.out hu rfl Hi1.out ?_) | (go_at_call 29; refine (twice_any m Hml.out _).mono ?_; rintro e w4 ⟨rfl, hb4⟩; have Hw4 := row_out (Row.below Hw3.out hb4 (Row.lt Hw3.out)); have Hb4 := Lib.hid hb4; clear hb4) | (with_reducible refine wpList_store_row rfl 49 _ _ rfl g (mc (Crc.twice m)) (mc m) 49 rfl rfl Hw4.out Hsm.out Hi2.out Hm2.out ?_; intro w5 Hw5 hg5; have Hg5 := Lib.hid hg5; clear hg5) | (with_reducible refine wpList_load_row rfl 49 _ rfl g rfl 49 (mc (Crc.twice m)) (0, 0) _ Hw5.out hu rfl Hi2.out ?_) | (with_reducible refine wpList_store_new rfl 49 _ _ rfl (mc (Crc.twice m)) _ 49 rfl rfl 32 rfl Hn2.out Hi.out Hm2.out ?_; intro w6 Hw6 hb6; have Hb6 := Lib.hid hb6; clear hb6))
        go_roundw
        case rel => exact ⟨k / 2, _, 2 * T, Crc.twice m, Crc.of m z, by omega, by go_num, rfl, rfl, (below_len H5.out Hb3.out Hb4.out Hg5.out), Hw6.out, Crc.twice_turns H3.out, HS.out, below_six H1.out H5.out Hb3.out Hb4.out Hg5.out Hb6.out⟩
        case measure => simp [intOf]; omega
      | false =>
        rw [hq] at hodd
        have HS : Hid (Crc.turns (2 * T * (k / 2)) z = Crc.turns (8 * n) x) := by
          refine Lib.hid ?_
          rw [← H4.out]
          congr 1
          have : k = k % 2 + 2 * (k / 2) := by omega
          have h1 : k % 2 = 0 := by have : k % 2 ≠ 1 := by simpa using hq
                                    omega
          rw [h1, Nat.zero_add] at this
          conv => rhs; rw [this]
          rw [← Nat.mul_assoc, Nat.mul_comm T 2]
        clear hq
        go_wp2_with (first | (with_reducible refine wpList_load_row rfl 49 _ rfl g rfl 49 (mc m) (0, 0) _ H2o.out hu rfl Hi1.out ?_) | (go_at_call 29; refine (twice_any m Hml.out _).mono ?_; rintro e w4 ⟨rfl, hb4⟩; have Hw4 := row_out (Row.below H2o.out hb4 (Row.lt H2o.out)); have Hb4 := Lib.hid hb4; clear hb4) | (with_reducible refine wpList_store_row rfl 49 _ _ rfl g (mc (Crc.twice m)) (mc m) 49 rfl rfl Hw4.out Hsm.out Hi2.out Hm2.out ?_; intro w5 Hw5 hg5; have Hg5 := Lib.hid hg5; clear hg5) | (with_reducible refine wpList_load_row rfl 49 _ rfl g rfl 49 (mc (Crc.twice m)) (0, 0) _ Hw5.out hu rfl Hi2.out ?_) | (with_reducible refine wpList_store_new rfl 49 _ _ rfl (mc (Crc.twice m)) _ 49 rfl rfl 32 rfl Hn2.out Hi.out Hm2.out ?_; intro w6 Hw6 hb6; have Hb6 := Lib.hid hb6; clear hb6))
        go_roundw
        case rel => exact ⟨k / 2, _, 2 * T, Crc.twice m, z, by omega, by go_num, rfl, rfl, (below_len H5.out (Below.refl _ _) Hb4.out Hg5.out), Hw6.out, Crc.twice_turns H3.out, HS.out, below_six H1.out H5.out (Below.refl _ _) Hb4.out Hg5.out Hb6.out⟩
        case measure => simp [intOf]; omega
    · obtain rfl : k = 0 := by omega
      have Hf : Hid (z ^^^ y = Crc.join x y n) := by
        have := H4.out
        rw [Nat.mul_zero] at this
        refine Lib.hid ?_
        rw [Crc.join, ← this]; rfl
      have hz0 := ui_lo z
      have hz1 := ui_hi z
      have hq0 := ui_lo (z ^^^ y)
      have hq1 := ui_hi (z ^^^ y)
      go_wp2
      go_ret2
      refine ⟨?_, H5.out⟩
      rw [← Hf.out]; rfl

/-- A slice of words that is read. -/
def Ws (w : World) (A : Option Addr) (n : Nat) (m : List (BitVec 32)) : Prop :=
  m.length = n ∧ n ≤ 9223372036854775807 ∧ ∀ (j : Nat) (x : BitVec 32), m[j]? = some x → ∃ ad, A = some ad ∧ w.cell? (ad.add j) = some (.int .u32 (ui x))
theorem Ws.get {w : World} {A : Option Addr} {n : Nat} {m : List (BitVec 32)} (h : Ws w A n m) {k : Nat} (hk : k < n) :
    ∃ ad, A = some ad ∧ w.cell? (ad.add k) = some (.int .u32 (ui (m.getD k 0#32))) := by
  have hl : k < m.length := by rw [h.1]; exact hk
  obtain ⟨ad, e, hc⟩ := h.2.2 k m[k] (List.getElem?_eq_getElem hl)
  exact ⟨ad, e, by rw [List.getD_eq_getElem?_getD, List.getElem?_eq_getElem hl]; exact hc⟩
theorem Ws.below {w w1 : World} {A : Option Addr} {n : Nat} {m : List (BitVec 32)} (h : Ws w A n m) (hb : Below w.heap.size w w1) : Ws w1 A n m :=
  ⟨h.1, h.2.1, fun j x hj => by
    obtain ⟨ad, e, hc⟩ := h.2.2 j x hj
    exact ⟨ad, e, cell_below hb hc⟩⟩

theorem mod_odd (b : BitVec 32) : (ui b % 2 == 1) = b.getLsbD 0 := by
  unfold ui
  rw [BitVec.getLsbD, Nat.testBit_zero]
  rcases Nat.mod_two_eq_zero_or_one b.toNat with h | h
  · have : (b.toNat : Int) % 2 = 0 := by omega
    rw [this, h]; rfl
  · have : (b.toNat : Int) % 2 = 1 := by omega
    rw [this, h]; rfl

theorem times_any (A : Option Addr) (c : Nat) (m : List (BitVec 32)) (n : BitVec 32) (w : World) (hm : Ws w A 32 m) :
    Calls Tryd.prog 30 #[.slice A 32 c, .int .u32 (ui n)] w fun e w' => e = .returned (.int .u32 (ui (Crc.of m n))) ∧ w = w' := by
  have Hm := Lib.hid hm
  clear hm
  go_enter Tryd.func30, Tryd.ntmps30
  go_wp2
  go_loop [5, 6, 1] (fun o i r => ∃ k : Nat, ∃ x : BitVec 32, k ≤ 32 ∧ i = .int .i64 k ∧ r = .int .u32 (ui (n >>> k)) ∧ o = .int .u32 (ui x) ∧ x ^^^ Crc.ofFrom m n (32 - k) k = Crc.of m n) (fun _ i _ => 32 - (intOf i).toNat)
  case atStart => exact ⟨0, 0#32, by omega, rfl, by simp, rfl, by simp [Crc.of]⟩
  case round =>
    obtain ⟨k, x, hk, rfl, hr, rfl, hx⟩ := hrel
    have Hx := Lib.hid hx
    clear hx
    obtain ⟨b, hb⟩ : ∃ b, b = n >>> k := ⟨_, rfl⟩
    rw [← hb] at hr
    subst hr
    have Hb := Lib.hid hb
    clear hb
    have hb0 := ui_lo b
    have hb1 := ui_hi b
    by_cases hk32 : k < 32
    · have hstep : Crc.ofFrom m n (32 - k) k = (if n.getLsbD k then m.getD k 0#32 else 0#32) ^^^ Crc.ofFrom m n (32 - (k + 1)) (k + 1) := by
        rw [show 32 - k = (32 - (k + 1)) + 1 from by omega]; rfl
      have hbit : b.getLsbD 0 = n.getLsbD k := by rw [Hb.out, BitVec.getLsbD_ushiftRight]; rfl
      have hnext : b >>> 1 = n >>> (k + 1) := by rw [Hb.out, BitVec.shiftRight_add]
      have Hn := Lib.hid hnext
      obtain ⟨ad, rfl, hcell⟩ := Hm.out.get hk32
      have hlo := mod_odd b
      clear hnext
      cases hg : n.getLsbD k with
      | true =>
        rw [hbit, hg] at hlo
        have Hs : Hid ((x ^^^ m.getD k 0#32) ^^^ Crc.ofFrom m n (32 - (k + 1)) (k + 1) = Crc.of m n) := by
          have := Hx.out
          rw [hstep, hg, if_pos rfl, ← BitVec.xor_assoc] at this
          exact this
        clear hstep hbit hg Hx
        obtain ⟨y, hy⟩ : ∃ y, y = m.getD k 0#32 := ⟨_, rfl⟩
        rw [← hy] at hcell Hs
        have Hy := Lib.hid hy
        clear hy
        go_wp2
        go_round
        case rel => exact ⟨k + 1, x ^^^ y, by omega, by go_num, by rw [← Hn.out, ← ui_shr1], rfl, Hs.out⟩
        case measure => simp [intOf]; omega
      | false =>
        rw [hbit, hg] at hlo
        have Hs : Hid (x ^^^ Crc.ofFrom m n (32 - (k + 1)) (k + 1) = Crc.of m n) := by
          have := Hx.out
          rw [hstep, hg] at this
          exact Lib.hid (by simpa using this)
        clear hstep hbit hg Hx
        go_wp2
        go_round
        case rel => exact ⟨k + 1, x, by omega, by go_num, by rw [← Hn.out, ← ui_shr1], rfl, Hs.out⟩
        case measure => simp [intOf]; omega
    · obtain rfl : k = 32 := by omega
      have Hf : Hid (x = Crc.of m n) := by
        have := Hx.out
        exact Lib.hid (by simpa [Crc.ofFrom] using this)
      clear hk32
      go_wp2
      go_ret
      exact ⟨by rw [← Hf.out]; rfl, rfl⟩

end Go.Proofs.YtmmbofgamipfiaaDoor
