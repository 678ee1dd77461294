/-
  CONTRACTS: what the laws themselves use: bytes lent and taken back.
-/
import Derived.Test.YteljopjaolegaaaDoorSumN
namespace Go.Proofs.YteljopjaolegaaaDoor
open Go.RowKit
set_option maxRecDepth 100000

theorem size_u8 : (Tryd.prog.info? 5).map (·.size) = some 1 := by kernel_rfl
theorem bs_zeros (n : Nat) : List.replicate n (Value.int .u8 0) = bs (List.replicate n 0) := by simp [bs, ub]

/-- Lent bytes: the marks behind them. -/
def marks (k : Nat) : List UInt8 := List.replicate k 201 ++ List.replicate (3 - k) 0
theorem lent_splice {l : List UInt8} {n : Nat} (h : l.length = n) : splice (List.replicate (n + 3) 0) 0 (l.take n) = l ++ marks 0 := by
  subst h
  rw [List.take_of_length_le (Nat.le_refl _)]
  simp [splice, marks]

theorem zero_block {w : World} {base g n : Nat} (h : Hid (w.ownsRow base 5 1 (.slice (some ⟨g, 0, none⟩) n n) n (List.replicate n (.int .u8 0)))) : Hid (w.heap[g]? = some (.cells (bs (List.replicate n 0)).toArray 5 (0, 0))) := by
  have := own_block h.out
  rw [bs_zeros] at this
  exact Lib.hid this

theorem lent_set (l : List UInt8) (k : Nat) (h : k < 3) : (bs (l ++ marks k)).set (l.length + k) (.int .u8 201) = bs (l ++ marks (k + 1)) := by
  have h1 : ∀ i : Fin 3, (bs (marks i.val)).set i.val (.int .u8 201) = bs (marks (i.val + 1)) := by
    intro i
    match i with
    | ⟨0, _⟩ => rfl
    | ⟨1, _⟩ => rfl
    | ⟨2, _⟩ => rfl
  rw [bs_append, bs_append, List.set_append_right _ _ (by rw [bs_length]; omega), bs_length, Nat.add_sub_cancel_left]
  rw [h1 ⟨k, h⟩]

set_option maxHeartbeats 400000 in
theorem lent_any (A : Option Addr) (n c : Nat) (l : List UInt8) (w : World) (hb : Bs w A n l) (hn : n ≤ 140737488351232) :
    Calls Tryd.prog 17 #[.slice A n c] w fun e w' => e = .returned (.slice (some ⟨w.heap.size, 0, none⟩) n (n + 3)) ∧
      w'.heap[w.heap.size]? = some (.cells (bs (l ++ marks 3)).toArray 5 (0, 0)) ∧ Below w.heap.size w w' := by
  have Hinfo := Lib.hid info_u8
  have Hsz := Lib.hid size_u8
  have Hm1 : Hid (1 * (n + 3) ≤ 281474976710656) := Lib.hid (by omega)
  have Hm2 : Hid (n + 3 ≤ maxLen) := Lib.hid (by simp only [maxLen]; omega)
  obtain ⟨B, hB⟩ : ∃ B, B = w.heap.size := ⟨_, rfl⟩
  have HB := Lib.hid hB
  have HB2 : Hid (B ≤ w.heap.size) := Lib.hid (by omega)
  have Hb := Lib.hid hb
  clear hB hb
  go_enter Tryd.func17, Tryd.ntmps17
  have Hk : Hid (n = Nat.min n (n + 3)) := Lib.hid (by show n = min n (n + 3); omega)
  have Hfit : Hid (0 + n ≤ (List.replicate (n + 3) (0 : UInt8)).length) := Lib.hid (by simp)
  go_wp2_with (first | (at_make; refine wpList_make_zeros rfl _ _ 31 rfl B 5 (.int .u8 0) 1 Tryd.underlying31 Hinfo.out rfl _ _ (n + 3) rfl rfl (by omega) (by omega) Hm1.out Hm2.out HB2.out ?_; intro w1 Ho1 hb1; have hw1 := zero_block Ho1; have HB1 := Lib.hid (Hb.out.below hb1); have Hb1 := Lib.hid hb1; clear hb1) | (with_reducible refine wpList_copy_bytes rfl _ _ 31 31 rfl 5 Tryd.underlying31 Hsz.out (some ⟨w.heap.size, 0, none⟩) (n + 3) (n + 3) A n c rfl rfl w.heap.size 0 (List.replicate (n + 3) 0) 5 hw1.out l HB1.out n Hk.out (fun _ => rfl) Hfit.out ?_; intro w2 hw2 hg2))
  have H0 : Hid (w2.heap[B]? = some (.cells (bs (l ++ marks 0)).toArray 5 (0, 0)) ∧ Below B w w2) := by
    refine Lib.hid ⟨?_, ?_⟩
    · have h2 := hw2.out
      rw [HB.out, h2]
      rw [lent_splice Hb.out.len]
    · rw [HB.out]
      exact Hb1.out.grown hg2 Hb1.out.size (fun k hk => by cases hk; exact Nat.le_refl _)
  clear hw2 hg2 hw1 HB1 Hb1 Ho1
  rw [← HB.out]
  go_loopw [4] (fun i wr => ∃ k : Nat, k ≤ 3 ∧ i = .int .i64 ((n + k : Nat) : Int) ∧ wr.heap[B]? = some (.cells (bs (l ++ marks k)).toArray 5 (0, 0)) ∧ Below B w wr) (fun i _ => n + 3 - (intOf i).toNat)
  case atStart => exact ⟨0, by omega, rfl, H0.out.1, H0.out.2⟩
  case round =>
    obtain ⟨k, hk, rfl, h1, h2⟩ := hrel
    have H1 := Lib.hid h1
    have H2 := Lib.hid h2
    clear h1 h2
    by_cases hlt : k < 3
    · have hx : (bs (l ++ marks k))[n + k]? = some (.int .u8 (ub 0)) := by
        have hl := Hb.out.len
        rw [bs_append, List.getElem?_append_right (by rw [bs_length]; omega), bs_length, hl, Nat.add_sub_cancel_left]
        have : ∀ i : Fin 3, (marks i.val)[i.val]? = some 0 := by decide
        simp only [bs, List.getElem?_map, this ⟨k, hlt⟩]
        rfl
      have hc := cell_block H1.out hx
      have hf := free_block H1.out (n + k)
      obtain ⟨q, hq⟩ : ∃ q, q = n + k := ⟨_, rfl⟩
      have hqn : (q : Int) < (n : Int) + 3 := by omega
      have hq0 : (0 : Int) ≤ (q : Int) := by omega
      have hqb : q ≤ 140737488351236 := by omega
      rw [← hq] at hc hf ⊢
      have Hq := Lib.hid hq
      clear hx hq
      go_wp2
      go_roundw
      case rel => exact ⟨k + 1, by omega, by rw [show n + (k + 1) = q + 1 from by rw [Hq.out]; omega]; go_num, by rw [← lent_set l k hlt, Hb.out.len, ← Hq.out]; exact set_block H1.out _ _, H2.out.setCell (Nat.le_refl _) _⟩
      case measure => simp [intOf]; omega
    · have e : k = 3 := by omega
      have h1 := H1.out
      rw [e] at h1
      have H3 := Lib.hid h1
      clear h1 e
      go_wp2
      go_ret
      have hB := HB.out
      subst hB
      exact ⟨by simp, H3.out, H2.out⟩

/-- The bytes that their owner writes over. -/
def over (l : List UInt8) (k : Nat) : List UInt8 := (l.take k).map (· ^^^ 33) ++ l.drop k
theorem over_zero (l : List UInt8) : over l 0 = l := by simp [over]
theorem over_get {l : List UInt8} {k : Nat} {c : UInt8} (h : l[k]? = some c) : (over l k)[k]? = some c := by
  have hl := (List.getElem?_eq_some_iff.1 h).1
  rw [over, List.getElem?_append_right (by simp; omega)]
  simp [Nat.min_eq_left (Nat.le_of_lt hl), h]
theorem over_set {l : List UInt8} {k : Nat} {c : UInt8} (h : l[k]? = some c) : (bs (over l k)).set k (.int .u8 (ub (c ^^^ 33))) = bs (over l (k + 1)) := by
  have hl := (List.getElem?_eq_some_iff.1 h)
  obtain ⟨h1, h2⟩ := hl
  rw [over, over, take_snoc h, List.map_append, bs_append, List.set_append_right _ _ (by simp [bs]; omega), bs_append, bs_append, List.append_assoc]
  congr 1
  have e : (bs ((l.take k).map (· ^^^ 33))).length = k := by simp [bs]; omega
  rw [e, Nat.sub_self, List.drop_eq_getElem_cons h1, h2]
  rfl
theorem over_length (l : List UInt8) (k : Nat) : (over l k).length = l.length := by simp [over]; omega

theorem u8_xor_33 (c : UInt8) : bits .xor .u8 (ub c) 33 = ub (c ^^^ 33) := by
  have : (33 : Int) = ub 33 := by decide
  rw [this, u8_xor_ub]

set_option maxHeartbeats 800000 in
/-- Lent bytes that nobody wrote are as they were; then their owner writes over them. -/
theorem back_any (A : Option Addr) (n c g : Nat) (l : List UInt8) (w : World) (hb : Bs w A n l) (hn : n ≤ 140737488351232)
    (hg : w.heap[g]? = some (.cells (bs (l ++ marks 3)).toArray 5 (0, 0))) (hne : ∀ ad, A = some ad → ad.block ≠ g) :
    Calls Tryd.prog 19 #[.slice (some ⟨g, 0, none⟩) n (n + 3), .slice A n c] w fun e w' => e = .returned (.bool true) ∧ w.grownBy w' (some g) := by
  have hl := hb.len
  have Hl := Lib.hid hl
  have Hb := Lib.hid hb
  have Hg := Lib.hid hg
  have Hne := Lib.hid hne
  have Hlen : Hid ((l ++ marks 3).length = n + 3) := Lib.hid (by rw [List.length_append, hl]; rfl)
  clear hb hg hne hl
  go_enter Tryd.func19, Tryd.ntmps19
  go_wp2_with fail
  go_loopw [6, 7, 8] (fun ok i _ wr => ∃ k : Nat, k ≤ n + 3 ∧ i = .int .i64 k ∧ ok = .bool true ∧ wr.heap[g]? = some (.cells (bs (over (l ++ marks 3) k)).toArray 5 (0, 0)) ∧ w.grownBy wr (some g)) (fun _ i _ _ => n + 3 - (intOf i).toNat)
  case atStart => exact ⟨0, by omega, rfl, rfl, by rw [over_zero]; exact Hg.out, World.grownBy.refl _ _⟩
  case round =>
    obtain ⟨k, hk, rfl, rfl, h1, h2⟩ := hrel
    have H1 := Lib.hid h1
    have H2 := Lib.hid h2
    clear h1 h2
    by_cases hlt : k < n + 3
    · obtain ⟨x, hx⟩ : ∃ x, (l ++ marks 3)[k]? = some x := ⟨_, List.getElem?_eq_getElem (by rw [Hlen.out]; exact hlt)⟩
      have hc := cell_block H1.out (j := k) (u := .int .u8 (ub x)) (by simp [bs, over_get hx])
      have hf := free_block H1.out k
      have hk0 : (0 : Int) ≤ (k : Int) := Int.natCast_nonneg _
      have hkn : (k : Int) < (n : Int) + 3 := by omega
      have hxo := u8_xor_33 x
      have hx0 := ub_lo x
      have hx1 := ub_hi x
      have Hs := Lib.hid (set_block H1.out k (.int .u8 (ub (x ^^^ 33))))
      rw [over_set hx] at Hs
      by_cases hin : k < n
      · obtain ⟨ad, y, rfl, hy, hcy⟩ := Hb.out.get hin
        have hyx : y = x := by
          rw [List.getElem?_append_left (by rw [Hl.out]; exact hin), hy] at hx
          exact Option.some.inj hx
        have hcy2 : wr.cell? (ad.add k) = some (.int .u8 (ub x)) := by
          rw [← hyx]
          refine H2.out.cell hcy ?_
          have hbl : (ad.add k).block = ad.block := by unfold Addr.add; split <;> rfl
          rw [hbl]
          intro e; cases e; exact Hne.out ad rfl rfl
        have heq : (ub x == ub x) = true := by simp
        clear hx hy hcy hyx
        go_wp2
        go_roundw
        case rel => exact ⟨k + 1, by omega, by go_num, rfl, Hs.out, (H2.out).setCell_row⟩
        case measure => simp [intOf]; omega
      · have hx2 : ub x = 201 := by
          rw [List.getElem?_append_right (by rw [Hl.out]; omega), Hl.out] at hx
          have : ∀ i : Fin 3, (marks 3)[i.val]? = some 201 := by decide
          rw [this ⟨k - n, by omega⟩] at hx
          cases hx; rfl
        have heq : (ub x == 201) = true := by rw [hx2]; rfl
        clear hx hx2
        go_wp2
        go_roundw
        case rel => exact ⟨k + 1, by omega, by go_num, rfl, Hs.out, (H2.out).setCell_row⟩
        case measure => simp [intOf]; omega
    · have e : k = n + 3 := by omega
      have hk3 : ¬ (k : Int) < (n : Int) + 3 := by omega
      go_wp2
      go_ret
      exact ⟨rfl, H2.out⟩

end Go.Proofs.YteljopjaolegaaaDoor
