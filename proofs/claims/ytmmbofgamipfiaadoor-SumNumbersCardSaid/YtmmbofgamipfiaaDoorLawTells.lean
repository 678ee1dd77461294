/-
  THE WALK of coffretlaw11.SumTells.
-/
import Derived.Test.YtmmbofgamipfiaaDoorLawBack
import Derived.StillTailTactics
namespace Go.Proofs.YtmmbofgamipfiaaDoor
open Go.RowKit
set_option linter.unusedVariables false

theorem zipWith_self (a : List UInt8) : List.zipWith (· ^^^ ·) a a = List.replicate a.length 0 := by
  induction a with
  | nil => rfl
  | cons x r ih =>
    rw [List.zipWith_cons_cons, ih, UInt8.xor_self]; rfl
theorem zipWith_back (p q : List UInt8) (h : p.length = q.length) : List.zipWith (· ^^^ ·) p (List.zipWith (· ^^^ ·) p q) = q := by
  induction p generalizing q with
  | nil => cases q with
    | nil => rfl
    | cons _ _ => simp at h
  | cons x r ih =>
    cases q with
    | nil => simp at h
    | cons y s =>
      simp only [List.zipWith_cons_cons]
      rw [ih s (by simpa using h), ← UInt8.xor_assoc, UInt8.xor_self, UInt8.zero_xor]

/-- The bytes l, from k on turned by the first i of xs. -/
def tw (l : List UInt8) (k : Nat) (xs : List UInt8) (i : Nat) : List UInt8 := l.take k ++ List.zipWith (· ^^^ ·) ((l.drop k).take i) (xs.take i) ++ l.drop (k + i)
theorem tw_zero (l : List UInt8) (k : Nat) (xs : List UInt8) : tw l k xs 0 = l := by simp [tw]
theorem tw_length (l : List UInt8) (k : Nat) (xs : List UInt8) (i : Nat) (h1 : k + i ≤ l.length) (h2 : i ≤ xs.length) : (tw l k xs i).length = l.length := by
  simp [tw]; omega
theorem tw_get {l : List UInt8} {k : Nat} {xs : List UInt8} {i : Nat} {c : UInt8} (h : l[k + i]? = some c) (h2 : i ≤ xs.length) : (tw l k xs i)[k + i]? = some c := by
  have h1 := (List.getElem?_eq_some_iff.1 h).1
  have e : (l.take k ++ List.zipWith (· ^^^ ·) ((l.drop k).take i) (xs.take i)).length = k + i := by simp; omega
  rw [tw, List.getElem?_append_right (by omega), e, Nat.sub_self, List.getElem?_drop]
  exact h
theorem tw_set {l : List UInt8} {k : Nat} {xs : List UInt8} {i : Nat} {c x : UInt8} (h : l[k + i]? = some c) (hx : xs[i]? = some x) : (tw l k xs i).set (k + i) (c ^^^ x) = tw l k xs (i + 1) := by
  have h1 := (List.getElem?_eq_some_iff.1 h).1
  have h2 := (List.getElem?_eq_some_iff.1 hx).1
  have e : (l.take k ++ List.zipWith (· ^^^ ·) ((l.drop k).take i) (xs.take i)).length = k + i := by simp; omega
  have hd : (l.drop k)[i]? = some c := by rw [List.getElem?_drop]; exact h
  rw [tw, tw, List.set_append_right _ _ (by omega), e, Nat.sub_self, take_snoc hd, take_snoc hx, List.zipWith_append (by simp; omega)]
  have ed : l.drop (k + i) = c :: l.drop (k + (i + 1)) := by
    rw [List.drop_eq_getElem_cons h1, (List.getElem?_eq_some_iff.1 h).2]; rfl
  rw [ed]
  simp
theorem tw_zip (l : List UInt8) (k : Nat) (xs : List UInt8) (i : Nat) (h1 : k + i ≤ l.length) (h2 : i ≤ xs.length) :
    List.zipWith (· ^^^ ·) l (tw l k xs i) = List.replicate k 0 ++ xs.take i ++ List.replicate (l.length - (k + i)) 0 := by
  have e : l = l.take k ++ (l.drop k).take i ++ l.drop (k + i) := by
    rw [List.append_assoc, ← List.drop_drop, List.take_append_drop, List.take_append_drop]
  conv => lhs; rw [e]
  have e2 : tw (l.take k ++ (l.drop k).take i ++ l.drop (k + i)) k xs i = tw l k xs i := by rw [← e]
  rw [e2, tw, List.zipWith_append (by simp; omega), List.zipWith_append (by rfl), zipWith_self, zipWith_self, zipWith_back _ _ (by simp; omega)]
  simp
  omega
/-- A burst of up to four bytes tells. -/
theorem tw_tells (l : List UInt8) (k : Nat) (xs : List UInt8) (i : Nat) (h1 : k + i ≤ l.length) (h2 : i ≤ xs.length) (h4 : i ≤ 4) :
    (ui (Crc.sum l) == ui (Crc.sum (tw l k xs i))) = (xs.take i).all (· == 0) := by
  have e1 : (ui (Crc.sum l) == ui (Crc.sum (tw l k xs i))) = decide (Crc.sum l = Crc.sum (tw l k xs i)) := by
    rw [Bool.eq_iff_iff]
    simp only [beq_iff_eq, decide_eq_true_eq]
    exact ⟨fun h => ui_inj h, fun h => by rw [h]⟩
  rw [e1, Bool.eq_iff_iff, decide_eq_true_eq, Crc.sum_eq_iff _ _ (by rw [tw_length _ _ _ _ h1 h2]), tw_zip _ _ _ _ h1 h2, Crc.crc_burst _ _ _ (by simp; omega), List.all_eq_true]
  simp

theorem own_row {w : World} {base : Nat} {e : TypeId} {v : Value} {n : Nat} {l : List UInt8} (h : w.ownsRow base e 1 v n (bs l)) (hn : ¬ n = 0) :
    ∃ g cap rest, v = .slice (some ⟨g, 0, none⟩) n cap ∧ base ≤ g ∧ w.heap[g]? = some (.cells (bs l ++ rest).toArray e (0, 0)) ∧ n ≤ cap := by
  rcases h.2 with ⟨rfl, h0⟩ | ⟨g, cap, cur, rfl, hb, hg, hnc, hc, hs, ht⟩
  · exact absurd h0 hn
  · refine ⟨g, cap, cur.toList.drop (n * 1), rfl, hb, ?_, hnc⟩
    rw [hg, ← ht, List.take_append_drop]

theorem owns_empty {w : World} {B : Nat} (e : TypeId) (h : B ≤ w.heap.size) : (w.alloc (.cells #[] e)).ownsRow B e 1 (.slice (some ⟨w.heap.size, 0, none⟩) 0 0) 0 (bs []) :=
  ⟨rfl, .inr ⟨w.heap.size, 0, #[], rfl, h, heap_alloc_new _ _, Nat.le_refl _, by simp [maxLen], rfl, rfl⟩⟩

theorem bs_cell {w : World} {g : Nat} {l : List UInt8} {rest : List Value} {e : TypeId} (h : w.heap[g]? = some (.cells (bs l ++ rest).toArray e (0, 0))) {j : Nat} {c : UInt8} (hj : l[j]? = some c) : w.cell? ⟨g, j, none⟩ = some (.int .u8 (ub c)) := by
  refine cell_block h ?_
  rw [List.getElem?_append_left (by rw [bs_length]; exact (List.getElem?_eq_some_iff.1 hj).1)]
  simp [bs, hj]
theorem bs_row {w : World} {g : Nat} {l : List UInt8} {rest : List Value} {e : TypeId} (h : w.heap[g]? = some (.cells (bs l ++ rest).toArray e (0, 0))) {n : Nat} (hn : l.length = n) (hm : n ≤ 9223372036854775807) : Bs w (some ⟨g, 0, none⟩) n l :=
  ⟨hn, hm, fun j c hj => ⟨_, rfl, by
    have ha : (⟨g, 0, none⟩ : Addr).add j = ⟨g, j, none⟩ := by unfold Addr.add; split <;> simp_all
    rw [ha]; exact bs_cell h hj⟩⟩
theorem bs_set {l : List UInt8} {rest : List Value} {j : Nat} {c : UInt8} (hj : j < l.length) : (bs l ++ rest).set j (.int .u8 (ub c)) = bs (l.set j c) ++ rest := by
  rw [List.set_append_left _ _ (by rw [bs_length]; exact hj), bs, bs, List.map_set]

set_option maxRecDepth 100000 in
set_option maxHeartbeats 2000000 in
theorem sumTells_pos (A : Option Addr) (n c : Nat) (at0 : Int) (x0 x1 x2 x3 : UInt8) (l : List UInt8) (w : World) (hN : Nib w) (h : Bs w A n l) (hlt : ∀ ad, A = some ad → ad.block < w.heap.size) (hm : n ≤ 140737488351232) (hn : ¬ n = 0) (ha0 : 0 ≤ at0) (ha : at0 ≤ 9223372036854775807) :
    Calls Tryd.prog 7 #[.slice A n c, .int .i64 at0, .agg #[.int .u8 (ub x0), .int .u8 (ub x1), .int .u8 (ub x2), .int .u8 (ub x3)]] w fun e w' => e = .returned (.bool true) ∧ Below w.heap.size w w' := by
  have Hinfo := Lib.hid info_u8
  have HN := Lib.hid hN
  obtain ⟨k, hk⟩ : ∃ k : Nat, at0 % (n : Int) = k := ⟨(at0 % (n : Int)).toNat, by have := Int.emod_nonneg at0 (show (n : Int) ≠ 0 by omega); omega⟩
  have hkn : k < n := by have := Int.emod_lt_of_pos at0 (show (0 : Int) < (n : Int) by omega); omega
  have hz : ((n : Int) == 0) = false := by simp; omega
  obtain ⟨xs, hxs⟩ : ∃ xs : List UInt8, xs = [x0, x1, x2, x3] := ⟨_, rfl⟩
  have X4 : Hid (xs.length = 4) := Lib.hid (by rw [hxs]; rfl)
  obtain ⟨w0, hw0⟩ : ∃ w0, w0 = w.alloc (Obj.cells #[Value.int IntKind.u8 (ub x0), Value.int IntKind.u8 (ub x1), Value.int IntKind.u8 (ub x2), Value.int IntKind.u8 (ub x3)] 40) := ⟨_, rfl⟩
  obtain ⟨B, hB⟩ : ∃ B, B = w0.heap.size := ⟨_, rfl⟩
  obtain ⟨q, hq⟩ : ∃ q, q = w.heap.size := ⟨_, rfl⟩
  have hBq : B = q + 1 := by rw [hB, hw0, hq]; simp
  have h0 : Bs w0 A n l := by rw [hw0]; exact h.below ((Below.refl _ _).alloc (Nat.le_refl _) _)
  have HN0 : Hid (Nib w0) := Lib.hid (by rw [hw0]; exact HN.out.alloc _)
  have HX0 : w0.heap[q]? = some (.cells (bs xs ++ []).toArray 40 (0, 0)) := by rw [hw0, hq, heap_alloc_new, hxs]; rfl
  have HBl : Hid (∀ wx, Below B w0 wx → B ≤ wx.heap.size) := Lib.hid (fun wx h => by rw [hB]; exact h.size)
  have Hup : Hid (∀ wx, Below w0.heap.size w0 wx → Below B w0 wx) := Lib.hid (fun wx h => by rw [hB]; exact h)
  have Hlow : Hid (∀ wx, Below B w0 wx → Below w.heap.size w wx) := Lib.hid (fun wx h => by
    have h1 : Below w.heap.size w w0 := by rw [hw0]; exact (Below.refl _ _).alloc (Nat.le_refl _) _
    exact h1.trans (h.mono (by rw [← hq, hBq]; omega)))
  have K1 : Hid (∀ wx, Below B w0 wx → Bs wx A n l) := Lib.hid (fun wx h => h0.below (by rw [← hB]; exact h))
  have KN : Hid (∀ wx, Below B w0 wx → Nib wx) := Lib.hid (fun wx h => HN0.out.below (by rw [← hB]; exact h))
  have KX : Hid (∀ wx, Below B w0 wx → wx.heap[q]? = some (.cells (bs xs ++ []).toArray 40 (0, 0))) := Lib.hid (fun wx h => by rw [h.block q (by omega)]; exact HX0)
  have HAB : Hid (∀ ad, A = some ad → ad.block < B) := Lib.hid (fun ad e => by have := hlt ad e; rw [← hq] at this; omega)
  have Hr1 : Hid (0 + n ≤ 140737488355328) := Lib.hid (by omega)
  have HL := Lib.hid h.len
  have Hw0 := Lib.hid hw0
  have Hq := Lib.hid hq
  have HBq := Lib.hid hBq
  have E1 : Hid (∀ wx (w' : World), wx = wx → Below B w0 wx → wx.heap.size = wx.heap.size) := Lib.hid (fun _ _ _ _ => rfl)
  clear hN h hlt hB hBq h0 HX0 hw0 E1
  go_enter Tryd.func7, Tryd.ntmps7
  go_wp2_with (first
    | (go_at_call 10; rw [← Hw0.out]; refine (awake11 _ HN0.out).mono ?_; rintro e w1 ⟨rfl, hb⟩; have G1 := Lib.hid (Hup.out _ hb); clear hb)
    | (at_builtin; refine wpList_append_bytes rfl _ _ 22 rfl B 5 (.int .u8 0) Tryd.underlying22 Hinfo.out rfl (.slice (some ⟨w1.heap.size, 0, none⟩) 0 0) 0 (bs []) rfl (owns_empty 5 (HBl.out _ G1.out)) A n c l rfl ((K1.out _ G1.out).below ((Below.refl _ _).alloc (Nat.le_refl _) _)) Hr1.out (Nat.le_trans (HBl.out _ G1.out) (by simp)) ?_; intro va wa ho hg hla; have hga : Below B w0 wa := (G1.out.alloc (HBl.out _ G1.out) _).grown hg (Nat.le_trans (HBl.out _ G1.out) (by simp)) (fun i hi => by cases hi; exact HBl.out _ G1.out); have Ga := Lib.hid hga; have ho2 : wa.ownsRow B 5 1 va n (bs l) := (by rw [Nat.zero_add] at ho; exact ho); obtain ⟨g, cap, rest, rfl, hbg, hg0, hcap⟩ := own_row ho2 hn; have Hg0 := Lib.hid hg0; have Hbg := Lib.hid hbg; clear ho ho2 hg hla hga hg0 hbg))
  clear Hinfo Hr1
  go_loopw [10, 11] (fun same i wr => ∃ j : Nat, j ≤ 4 ∧ k + j ≤ n ∧ i = .int .i64 j ∧ same = .bool ((xs.take j).all (· == 0)) ∧ wr.heap[g]? = some (.cells (bs (tw l k xs j) ++ rest).toArray 5 (0, 0)) ∧ Below B w0 wr) (fun _ i _ => 4 - (intOf i).toNat)
  case atStart => exact ⟨0, by omega, by omega, rfl, rfl, by rw [tw_zero]; exact Hg0.out, Ga.out⟩
  case round =>
    obtain ⟨j, hj4, hjn, rfl, rfl, h1, h2⟩ := hrel
    have H1 := Lib.hid h1
    have H2 := Lib.hid h2
    clear h1 h2
    by_cases hin : j < 4 ∧ k + j < n
    · obtain ⟨hj, hkj⟩ := hin
      obtain ⟨x, hx⟩ : ∃ x, xs[j]? = some x := ⟨_, List.getElem?_eq_getElem (by rw [X4.out]; exact hj)⟩
      obtain ⟨y, hy⟩ : ∃ y, l[k + j]? = some y := ⟨_, List.getElem?_eq_getElem (by rw [HL.out]; exact hkj)⟩
      have hcy := bs_cell H1.out (tw_get (xs := xs) hy (by rw [X4.out]; omega))
      have hcx := bs_cell (KX.out _ H2.out) hx
      rw [Hq.out] at hcx
      have hfr := free_block H1.out (k + j)
      have hji : (j : Int) < 4 := by omega
      have hj0 : (0 : Int) ≤ (j : Int) := by omega
      have hkji : (k : Int) + (j : Int) < (n : Int) := by omega
      have hkj0 : (0 : Int) ≤ (k : Int) + (j : Int) := by omega
      have hkjb : (k : Int) + (j : Int) ≤ 9223372036854775807 := by omega
      have Hset := Lib.hid (set_block H1.out (k + j) (.int .u8 (ub (y ^^^ x))))
      obtain ⟨b, hb⟩ : ∃ b, b = (xs.take j).all (· == 0) := ⟨_, rfl⟩
      have Hb := Lib.hid hb
      rw [← hb]
      have Hx := Lib.hid hx
      have Hy := Lib.hid hy
      clear hx hy hb
      go_wp2_with fail
      go_region
      have R1 : Hid ((wr.setCell ⟨g, k + j, none⟩ (.int .u8 (ub (y ^^^ x)))).drew.heap[g]? = some (.cells (bs (tw l k xs (j + 1)) ++ rest).toArray 5 (0, 0))) := Lib.hid (by
        have := Hset.out
        rw [bs_set (by rw [tw_length _ _ _ _ (by rw [HL.out]; omega) (by rw [X4.out]; omega), HL.out]; exact hkj), tw_set Hy.out Hx.out] at this
        exact this)
      have R2 : Hid (Below B w0 (wr.setCell ⟨g, k + j, none⟩ (.int .u8 (ub (y ^^^ x)))).drew) := Lib.hid ((H2.out.setCell Hbg.out _).drew)
      have R3 := bs_cell (KX.out _ R2.out) Hx.out
      rw [Hq.out] at R3
      have R4 : Hid ((xs.take (j + 1)).all (· == 0) = (b && (ub x == 0))) := Lib.hid (by
        rw [take_snoc Hx.out, List.all_append, ← Hb.out]
        congr 1
        simp only [List.all_cons, List.all_nil, Bool.and_true]
        rw [Bool.eq_iff_iff, beq_iff_eq, beq_iff_eq]
        exact ⟨fun h => by rw [h]; rfl, fun h => ub_inj (by rw [h]; rfl)⟩)
      clear hcy hcx hfr Hset Hb H1 H2
      generalize (wr.setCell ⟨g, k + j, none⟩ (.int .u8 (ub (y ^^^ x)))).drew = w9 at *
      cases b with
      | true =>
        go_wp2
        go_roundw
        case rel => exact ⟨j + 1, by omega, by omega, by go_num, by rw [R4.out]; simp, R1.out, R2.out⟩
        case measure => simp [intOf]; omega
      | false =>
        go_wp2
        go_roundw
        case rel => exact ⟨j + 1, by omega, by omega, by go_num, by rw [R4.out]; rfl, R1.out, R2.out⟩
        case measure => simp [intOf]; omega
    · have ht := tw_tells l k xs j (by rw [HL.out]; omega) (by rw [X4.out]; omega) hj4
      obtain ⟨b, hb⟩ : ∃ b, b = (xs.take j).all (· == 0) := ⟨_, rfl⟩
      rw [← hb] at ht ⊢
      have hbc := bs_row H1.out (n := n) (by rw [tw_length _ _ _ _ (by rw [HL.out]; omega) (by rw [X4.out]; omega), HL.out]) (by omega)
      obtain ⟨s1, e1⟩ : ∃ s, s = Crc.sum l := ⟨_, rfl⟩
      obtain ⟨s2, e2⟩ : ∃ s, s = Crc.sum (tw l k xs j) := ⟨_, rfl⟩
      have C1 : Hid (Calls Tryd.prog 12 #[.slice A n c] wr fun e w' => e = .returned (.int .i64 (ui s1)) ∧ wr = w') := Lib.hid (by
        rw [e1]; exact sum_any _ _ _ _ _ (K1.out _ H2.out) (KN.out _ H2.out))
      have C2 : Hid (Calls Tryd.prog 12 #[.slice (some ⟨g, 0, none⟩) n cap] wr fun e w' => e = .returned (.int .i64 (ui s2)) ∧ wr = w') := Lib.hid (by
        rw [e2]; exact sum_any _ _ _ _ _ hbc (KN.out _ H2.out))
      rw [← e1, ← e2] at ht
      have Ht := Lib.hid ht
      clear hbc e1 e2 ht hb
      by_cases hj : j < 4
      · have hji : (j : Int) < 4 := by omega
        have hkji : ¬ (k : Int) + (j : Int) < (n : Int) := by omega
        have hkjb : (k : Int) + (j : Int) ≤ 9223372036854775807 := by omega
        have hkj0 : (0 : Int) ≤ (k : Int) + (j : Int) := by omega
        go_wp2_with (go_at_call 12; (first | with_reducible refine C1.out.mono ?_ | with_reducible refine C2.out.mono ?_); rintro e w' ⟨rfl, rfl⟩)
        go_ret
        exact ⟨by rw [Ht.out]; simp, Hlow.out _ H2.out⟩
      · have hji : ¬ (j : Int) < 4 := by omega
        go_wp2_with (go_at_call 12; (first | with_reducible refine C1.out.mono ?_ | with_reducible refine C2.out.mono ?_); rintro e w' ⟨rfl, rfl⟩)
        go_ret
        exact ⟨by rw [Ht.out]; simp, Hlow.out _ H2.out⟩

set_option maxRecDepth 100000 in
set_option maxHeartbeats 2000000 in
theorem sumTells_neg (A : Option Addr) (n c : Nat) (at0 : Int) (x0 x1 x2 x3 : UInt8) (l : List UInt8) (w : World) (hN : Nib w) (h : Bs w A n l) (hlt : ∀ ad, A = some ad → ad.block < w.heap.size) (hm : n ≤ 140737488351232) (hn : ¬ n = 0) (ha0 : at0 < 0) (ha : -9223372036854775808 ≤ at0) :
    Calls Tryd.prog 7 #[.slice A n c, .int .i64 at0, .agg #[.int .u8 (ub x0), .int .u8 (ub x1), .int .u8 (ub x2), .int .u8 (ub x3)]] w fun e w' => e = .returned (.bool true) ∧ Below w.heap.size w w' := by
  have Hinfo := Lib.hid info_u8
  have HN := Lib.hid hN
  have hte : (-(at0 + 1)).tmod (n : Int) = (-(at0 + 1)) % (n : Int) := Int.tmod_eq_emod_of_nonneg (by omega)
  obtain ⟨k, hk⟩ : ∃ k : Nat, (-(at0 + 1)).tmod (n : Int) = k := ⟨((-(at0 + 1)) % (n : Int)).toNat, by have := Int.emod_nonneg (-(at0 + 1)) (show (n : Int) ≠ 0 by omega); omega⟩
  have hkn : k < n := by have := Int.emod_lt_of_pos (-(at0 + 1)) (show (0 : Int) < (n : Int) by omega); omega
  clear hte
  have hz : ((n : Int) == 0) = false := by simp; omega
  obtain ⟨xs, hxs⟩ : ∃ xs : List UInt8, xs = [x0, x1, x2, x3] := ⟨_, rfl⟩
  have X4 : Hid (xs.length = 4) := Lib.hid (by rw [hxs]; rfl)
  obtain ⟨w0, hw0⟩ : ∃ w0, w0 = w.alloc (Obj.cells #[Value.int IntKind.u8 (ub x0), Value.int IntKind.u8 (ub x1), Value.int IntKind.u8 (ub x2), Value.int IntKind.u8 (ub x3)] 40) := ⟨_, rfl⟩
  obtain ⟨B, hB⟩ : ∃ B, B = w0.heap.size := ⟨_, rfl⟩
  obtain ⟨q, hq⟩ : ∃ q, q = w.heap.size := ⟨_, rfl⟩
  have hBq : B = q + 1 := by rw [hB, hw0, hq]; simp
  have h0 : Bs w0 A n l := by rw [hw0]; exact h.below ((Below.refl _ _).alloc (Nat.le_refl _) _)
  have HN0 : Hid (Nib w0) := Lib.hid (by rw [hw0]; exact HN.out.alloc _)
  have HX0 : w0.heap[q]? = some (.cells (bs xs ++ []).toArray 40 (0, 0)) := by rw [hw0, hq, heap_alloc_new, hxs]; rfl
  have HBl : Hid (∀ wx, Below B w0 wx → B ≤ wx.heap.size) := Lib.hid (fun wx h => by rw [hB]; exact h.size)
  have Hup : Hid (∀ wx, Below w0.heap.size w0 wx → Below B w0 wx) := Lib.hid (fun wx h => by rw [hB]; exact h)
  have Hlow : Hid (∀ wx, Below B w0 wx → Below w.heap.size w wx) := Lib.hid (fun wx h => by
    have h1 : Below w.heap.size w w0 := by rw [hw0]; exact (Below.refl _ _).alloc (Nat.le_refl _) _
    exact h1.trans (h.mono (by rw [← hq, hBq]; omega)))
  have K1 : Hid (∀ wx, Below B w0 wx → Bs wx A n l) := Lib.hid (fun wx h => h0.below (by rw [← hB]; exact h))
  have KN : Hid (∀ wx, Below B w0 wx → Nib wx) := Lib.hid (fun wx h => HN0.out.below (by rw [← hB]; exact h))
  have KX : Hid (∀ wx, Below B w0 wx → wx.heap[q]? = some (.cells (bs xs ++ []).toArray 40 (0, 0))) := Lib.hid (fun wx h => by rw [h.block q (by omega)]; exact HX0)
  have HAB : Hid (∀ ad, A = some ad → ad.block < B) := Lib.hid (fun ad e => by have := hlt ad e; rw [← hq] at this; omega)
  have Hr1 : Hid (0 + n ≤ 140737488355328) := Lib.hid (by omega)
  have HL := Lib.hid h.len
  have Hw0 := Lib.hid hw0
  have Hq := Lib.hid hq
  have HBq := Lib.hid hBq
  have E1 : Hid (∀ wx (w' : World), wx = wx → Below B w0 wx → wx.heap.size = wx.heap.size) := Lib.hid (fun _ _ _ _ => rfl)
  clear hN h hlt hB hBq h0 HX0 hw0 E1
  go_enter Tryd.func7, Tryd.ntmps7
  go_wp2_with (first
    | (go_at_call 10; rw [← Hw0.out]; refine (awake11 _ HN0.out).mono ?_; rintro e w1 ⟨rfl, hb⟩; have G1 := Lib.hid (Hup.out _ hb); clear hb)
    | (at_builtin; refine wpList_append_bytes rfl _ _ 22 rfl B 5 (.int .u8 0) Tryd.underlying22 Hinfo.out rfl (.slice (some ⟨w1.heap.size, 0, none⟩) 0 0) 0 (bs []) rfl (owns_empty 5 (HBl.out _ G1.out)) A n c l rfl ((K1.out _ G1.out).below ((Below.refl _ _).alloc (Nat.le_refl _) _)) Hr1.out (Nat.le_trans (HBl.out _ G1.out) (by simp)) ?_; intro va wa ho hg hla; have hga : Below B w0 wa := (G1.out.alloc (HBl.out _ G1.out) _).grown hg (Nat.le_trans (HBl.out _ G1.out) (by simp)) (fun i hi => by cases hi; exact HBl.out _ G1.out); have Ga := Lib.hid hga; have ho2 : wa.ownsRow B 5 1 va n (bs l) := (by rw [Nat.zero_add] at ho; exact ho); obtain ⟨g, cap, rest, rfl, hbg, hg0, hcap⟩ := own_row ho2 hn; have Hg0 := Lib.hid hg0; have Hbg := Lib.hid hbg; clear ho ho2 hg hla hga hg0 hbg))
  clear Hinfo Hr1
  go_loopw [10, 11] (fun same i wr => ∃ j : Nat, j ≤ 4 ∧ k + j ≤ n ∧ i = .int .i64 j ∧ same = .bool ((xs.take j).all (· == 0)) ∧ wr.heap[g]? = some (.cells (bs (tw l k xs j) ++ rest).toArray 5 (0, 0)) ∧ Below B w0 wr) (fun _ i _ => 4 - (intOf i).toNat)
  case atStart => exact ⟨0, by omega, by omega, rfl, rfl, by rw [tw_zero]; exact Hg0.out, Ga.out⟩
  case round =>
    obtain ⟨j, hj4, hjn, rfl, rfl, h1, h2⟩ := hrel
    have H1 := Lib.hid h1
    have H2 := Lib.hid h2
    clear h1 h2
    by_cases hin : j < 4 ∧ k + j < n
    · obtain ⟨hj, hkj⟩ := hin
      obtain ⟨x, hx⟩ : ∃ x, xs[j]? = some x := ⟨_, List.getElem?_eq_getElem (by rw [X4.out]; exact hj)⟩
      obtain ⟨y, hy⟩ : ∃ y, l[k + j]? = some y := ⟨_, List.getElem?_eq_getElem (by rw [HL.out]; exact hkj)⟩
      have hcy := bs_cell H1.out (tw_get (xs := xs) hy (by rw [X4.out]; omega))
      have hcx := bs_cell (KX.out _ H2.out) hx
      rw [Hq.out] at hcx
      have hfr := free_block H1.out (k + j)
      have hji : (j : Int) < 4 := by omega
      have hj0 : (0 : Int) ≤ (j : Int) := by omega
      have hkji : (k : Int) + (j : Int) < (n : Int) := by omega
      have hkj0 : (0 : Int) ≤ (k : Int) + (j : Int) := by omega
      have hkjb : (k : Int) + (j : Int) ≤ 9223372036854775807 := by omega
      have Hset := Lib.hid (set_block H1.out (k + j) (.int .u8 (ub (y ^^^ x))))
      obtain ⟨b, hb⟩ : ∃ b, b = (xs.take j).all (· == 0) := ⟨_, rfl⟩
      have Hb := Lib.hid hb
      rw [← hb]
      have Hx := Lib.hid hx
      have Hy := Lib.hid hy
      clear hx hy hb
      go_wp2_with fail
      go_region
      have R1 : Hid ((wr.setCell ⟨g, k + j, none⟩ (.int .u8 (ub (y ^^^ x)))).drew.heap[g]? = some (.cells (bs (tw l k xs (j + 1)) ++ rest).toArray 5 (0, 0))) := Lib.hid (by
        have := Hset.out
        rw [bs_set (by rw [tw_length _ _ _ _ (by rw [HL.out]; omega) (by rw [X4.out]; omega), HL.out]; exact hkj), tw_set Hy.out Hx.out] at this
        exact this)
      have R2 : Hid (Below B w0 (wr.setCell ⟨g, k + j, none⟩ (.int .u8 (ub (y ^^^ x)))).drew) := Lib.hid ((H2.out.setCell Hbg.out _).drew)
      have R3 := bs_cell (KX.out _ R2.out) Hx.out
      rw [Hq.out] at R3
      have R4 : Hid ((xs.take (j + 1)).all (· == 0) = (b && (ub x == 0))) := Lib.hid (by
        rw [take_snoc Hx.out, List.all_append, ← Hb.out]
        congr 1
        simp only [List.all_cons, List.all_nil, Bool.and_true]
        rw [Bool.eq_iff_iff, beq_iff_eq, beq_iff_eq]
        exact ⟨fun h => by rw [h]; rfl, fun h => ub_inj (by rw [h]; rfl)⟩)
      clear hcy hcx hfr Hset Hb H1 H2
      generalize (wr.setCell ⟨g, k + j, none⟩ (.int .u8 (ub (y ^^^ x)))).drew = w9 at *
      cases b with
      | true =>
        go_wp2
        go_roundw
        case rel => exact ⟨j + 1, by omega, by omega, by go_num, by rw [R4.out]; simp, R1.out, R2.out⟩
        case measure => simp [intOf]; omega
      | false =>
        go_wp2
        go_roundw
        case rel => exact ⟨j + 1, by omega, by omega, by go_num, by rw [R4.out]; rfl, R1.out, R2.out⟩
        case measure => simp [intOf]; omega
    · have ht := tw_tells l k xs j (by rw [HL.out]; omega) (by rw [X4.out]; omega) hj4
      obtain ⟨b, hb⟩ : ∃ b, b = (xs.take j).all (· == 0) := ⟨_, rfl⟩
      rw [← hb] at ht ⊢
      have hbc := bs_row H1.out (n := n) (by rw [tw_length _ _ _ _ (by rw [HL.out]; omega) (by rw [X4.out]; omega), HL.out]) (by omega)
      obtain ⟨s1, e1⟩ : ∃ s, s = Crc.sum l := ⟨_, rfl⟩
      obtain ⟨s2, e2⟩ : ∃ s, s = Crc.sum (tw l k xs j) := ⟨_, rfl⟩
      have C1 : Hid (Calls Tryd.prog 12 #[.slice A n c] wr fun e w' => e = .returned (.int .i64 (ui s1)) ∧ wr = w') := Lib.hid (by
        rw [e1]; exact sum_any _ _ _ _ _ (K1.out _ H2.out) (KN.out _ H2.out))
      have C2 : Hid (Calls Tryd.prog 12 #[.slice (some ⟨g, 0, none⟩) n cap] wr fun e w' => e = .returned (.int .i64 (ui s2)) ∧ wr = w') := Lib.hid (by
        rw [e2]; exact sum_any _ _ _ _ _ hbc (KN.out _ H2.out))
      rw [← e1, ← e2] at ht
      have Ht := Lib.hid ht
      clear hbc e1 e2 ht hb
      by_cases hj : j < 4
      · have hji : (j : Int) < 4 := by omega
        have hkji : ¬ (k : Int) + (j : Int) < (n : Int) := by omega
        have hkjb : (k : Int) + (j : Int) ≤ 9223372036854775807 := by omega
        have hkj0 : (0 : Int) ≤ (k : Int) + (j : Int) := by omega
        go_wp2_with (go_at_call 12; (first | with_reducible refine C1.out.mono ?_ | with_reducible refine C2.out.mono ?_); rintro e w' ⟨rfl, rfl⟩)
        go_ret
        exact ⟨by rw [Ht.out]; simp, Hlow.out _ H2.out⟩
      · have hji : ¬ (j : Int) < 4 := by omega
        go_wp2_with (go_at_call 12; (first | with_reducible refine C1.out.mono ?_ | with_reducible refine C2.out.mono ?_); rintro e w' ⟨rfl, rfl⟩)
        go_ret
        exact ⟨by rw [Ht.out]; simp, Hlow.out _ H2.out⟩

set_option maxRecDepth 100000 in
set_option maxHeartbeats 2000000 in
theorem sumTells_zero (A : Option Addr) (c : Nat) (at0 : Int) (x0 x1 x2 x3 : UInt8) (w : World) (hN : Nib w) :
    Calls Tryd.prog 7 #[.slice A 0 c, .int .i64 at0, .agg #[.int .u8 (ub x0), .int .u8 (ub x1), .int .u8 (ub x2), .int .u8 (ub x3)]] w fun e w' => e = .returned (.bool true) ∧ Below w.heap.size w w' := by
  have HN := Lib.hid hN
  obtain ⟨w0, hw0⟩ : ∃ w0, w0 = w.alloc (Obj.cells #[Value.int IntKind.u8 (ub x0), Value.int IntKind.u8 (ub x1), Value.int IntKind.u8 (ub x2), Value.int IntKind.u8 (ub x3)] 40) := ⟨_, rfl⟩
  have h1 : Hid (Below w.heap.size w w0) := Lib.hid (by rw [hw0]; exact (Below.refl _ _).alloc (Nat.le_refl _) _)
  have HN0 : Hid (Nib w0) := Lib.hid (by rw [hw0]; exact HN.out.alloc _)
  have Hw0 := Lib.hid hw0
  have hs : ui (Crc.sum []) = 0 := by decide +kernel
  clear hN hw0
  go_enter Tryd.func7, Tryd.ntmps7
  go_wp2_with (first
    | (go_at_call 10; rw [← Hw0.out]; refine (awake11 _ HN0.out).mono ?_; rintro e w1 ⟨rfl, hb⟩; have G1 : Hid (Below w.heap.size w w1) := Lib.hid (h1.out.trans (hb.mono h1.out.size)); have HN1 := Lib.hid (HN0.out.below hb); clear hb)
    | (go_at_call 12; refine (sum_any _ _ _ [] _ (Bs.nil _ _) HN1.out).mono ?_; rintro e w' ⟨rfl, rfl⟩))

  go_simp
  go_ret
  exact ⟨rfl, G1.out⟩

theorem sumTells_any (A : Option Addr) (n c : Nat) (at0 : Int) (x : Value) (l : List UInt8) (w : World) (hN : Nib w) (h : Bs w A n l) (hlt : ∀ ad, A = some ad → ad.block < w.heap.size) (hm : n ≤ 140737488351232) (ha0 : -9223372036854775808 ≤ at0) (ha : at0 ≤ 9223372036854775807)
    (hx : ∃ x0 x1 x2 x3 : UInt8, x = .agg #[.int .u8 (ub x0), .int .u8 (ub x1), .int .u8 (ub x2), .int .u8 (ub x3)]) :
    Calls Tryd.prog 7 #[.slice A n c, .int .i64 at0, x] w fun e w' => e = .returned (.bool true) ∧ Below w.heap.size w w' := by
  obtain ⟨x0, x1, x2, x3, rfl⟩ := hx
  by_cases hn : n = 0
  · subst hn
    exact sumTells_zero A c at0 x0 x1 x2 x3 w hN
  · by_cases hs : 0 ≤ at0
    · exact sumTells_pos A n c at0 x0 x1 x2 x3 l w hN h hlt hm hn hs ha
    · exact sumTells_neg A n c at0 x0 x1 x2 x3 l w hN h hlt hm hn (by omega) ha0

end Go.Proofs.YtmmbofgamipfiaaDoor
