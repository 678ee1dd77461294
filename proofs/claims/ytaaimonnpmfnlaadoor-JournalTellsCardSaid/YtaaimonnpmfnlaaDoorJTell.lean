/-
  PLAIN: a frame of which some of the summed bytes are other ones.
-/
import Derived.Test.YtaaimonnpmfnlaaDoorLawScans
namespace Go.Proofs.YtaaimonnpmfnlaaDoor
set_option maxRecDepth 100000
set_option linter.unusedVariables false

/-- A frame of the bytes that are summed, and the sum's four. -/
def frT (M S : List UInt8) : List UInt8 := M.take 16 ++ S ++ M.drop 16
theorem frT_length (M S : List UInt8) (h : S.length = 4) (hm : 16 ≤ M.length) : (frT M S).length = M.length + 4 := by
  simp [frT, h]; omega
theorem frT_get {M S : List UInt8} (h : S.length = 4) (hm : 16 ≤ M.length) {j : Nat} {c : UInt8} (hj : M[j]? = some c) : (frT M S)[if 16 ≤ j then j + 4 else j]? = some c := by
  have e1 : (M.take 16).length = 16 := by rw [List.length_take]; omega
  have e2 : (M.take 16 ++ S).length = 20 := by rw [List.length_append]; omega
  rw [frT]
  by_cases h16 : 16 ≤ j
  · rw [if_pos h16, List.getElem?_append_right (by omega), e2, List.getElem?_drop, show 16 + (j + 4 - 20) = j by omega]; exact hj
  · rw [if_neg h16, List.append_assoc, List.getElem?_append_left (by omega), List.getElem?_take_of_lt (by omega)]; exact hj
theorem frT_set {M S : List UInt8} (h : S.length = 4) (hm : 16 ≤ M.length) (j : Nat) (c : UInt8) : (frT M S).set (if 16 ≤ j then j + 4 else j) c = frT (M.set j c) S := by
  have e1 : (M.take 16).length = 16 := by rw [List.length_take]; omega
  have e2 : (M.take 16 ++ S).length = 20 := by rw [List.length_append]; omega
  rw [frT, frT]
  by_cases h16 : 16 ≤ j
  · rw [if_pos h16, List.set_append_right _ _ (by omega), e2, List.take_set_of_le h16, List.drop_set, if_neg (by omega), show j + 4 - 20 = j - 16 by omega]
  · rw [if_neg h16, List.append_assoc, List.append_assoc, List.set_append_left _ _ (by omega), List.take_set, List.drop_set_of_lt (by omega)]
theorem frT_sum {M S : List UInt8} (h : S.length = 4) (hm : 16 ≤ M.length) : (frT M S).take 16 ++ (frT M S).drop 20 = M ∧ ((frT M S).drop 16).take 4 = S := by
  have e1 : (M.take 16).length = 16 := by rw [List.length_take]; omega
  have e2 : (M.take 16 ++ S).length = 20 := by rw [List.length_append]; omega
  constructor
  · have a1 : (frT M S).take 16 = M.take 16 := by rw [frT, List.append_assoc, List.take_left' e1]
    have a2 : (frT M S).drop 20 = M.drop 16 := by rw [frT, List.drop_left' e2]
    rw [a1, a2, List.take_append_drop]
  · rw [frT, List.append_assoc, List.drop_left' e1, List.take_left' h]

/-- What is summed of a frame; its sum's bytes. -/
def frM (e number : Nat) (b : List UInt8) : List UInt8 := jHead e number b.length ++ b
def frS (e number : Nat) (b : List UInt8) : List UInt8 := le 4 (jSum e number b).toNat
theorem frM_length (e number : Nat) (b : List UInt8) : (frM e number b).length = 16 + b.length := by simp [frM, jHead_length]
theorem frS_length (e number : Nat) (b : List UInt8) : (frS e number b).length = 4 := le_length 4 _
theorem frT_frame (e number : Nat) (b : List UInt8) : frT (frM e number b) (frS e number b) = frameOf e number b := by
  rw [frT, frM, List.take_left' (jHead_length _ _ _), List.drop_left' (jHead_length _ _ _)]; rfl

theorem tw_take4 (M : List UInt8) (k : Nat) (xs : List UInt8) (i : Nat) (hk : 4 ≤ k) (hm : k ≤ M.length) : (tw M k xs i).take 4 = M.take 4 := by
  rw [tw, List.append_assoc, List.take_append_of_le_length (by rw [List.length_take]; omega), List.take_take, Nat.min_eq_left hk]

theorem scanZ_epoch (l : List UInt8) (e : Nat) (h1 : 1 ≤ e) (h2 : e ≤ 1099511627776) : scanZ l e = scanOf l e := by
  rw [scanZ, if_pos (by simp only [EpOk, decide_eq_true_eq]; omega), Int.toNat_natCast]
theorem scanZ_not (l : List UInt8) (z : Int) (h : ¬ (1 ≤ z ∧ z ≤ 1099511627776)) : scanZ l z = ([], 0) := by
  rw [scanZ, if_neg (by simp only [EpOk, decide_eq_true_eq]; exact h)]
theorem stampOf_nat (e : Nat) (h2 : e ≤ 1099511627776) : stampOf e = le 8 e := by
  have h : NumOk (e : Int) 8 = true := by
    simp only [NumOk, decide_eq_true_eq]
    have e1 : (256 : Int) ^ (8 : Int).toNat = ((256 ^ 8 : Nat) : Int) := by decide
    rw [e1]
    omega
  rw [stampOf, if_pos h, Int.toNat_natCast]

/-- How many records a scan of a stamped frame finds. -/
theorem tell_scan (e : Nat) (b : List UInt8) (z : Int) (h1 : 1 ≤ e) (h2 : e ≤ 1099511627776) (hb : b.length ≤ 268435456) : (scanZ (stampedL (stampOf e) (frameOf e 0 b)) z).1.length = if z = e then 1 else 0 := by
  rw [stampOf_nat e h2]
  by_cases hz : 1 ≤ z ∧ z ≤ 1099511627776
  · obtain ⟨o, rfl⟩ : ∃ o : Nat, z = o := ⟨z.toNat, by omega⟩
    rw [scanZ_epoch _ _ (by omega) (by omega), scanOf]
    by_cases ho : o = e
    · subst ho
      obtain ⟨k, hk⟩ := stream_stamped o h2 _ (frameOf o 0 b) (Nat.le_refl _)
      rw [hk, scan_one o b k h1 h2 hb, if_pos rfl]; rfl
    · rw [stamp_stamped e o _ (fun h => ho h.symm) h2, scan_none _ _ (next_nil _ _), if_neg (by omega)]; rfl
  · rw [scanZ_not _ _ hz, if_neg (by omega)]; rfl
theorem tell_number (e : Nat) (b : List UInt8) (h1 : 1 ≤ e) (h2 : e ≤ 1099511627776) : (scanZ (stampedL (stampOf e) (frameOf e 1 b)) e).1.length = 0 := by
  rw [stampOf_nat e h2, scanZ_epoch _ _ h1 h2, scanOf]
  obtain ⟨k, hk⟩ := stream_stamped e h2 _ (frameOf e 1 b) (Nat.le_refl _)
  rw [hk, scan_none _ _ (next_number _ e 0 (by omega) (by omega) (by rw [frame_number e 1 b _ (by omega)]; omega))]; rfl
theorem tell_epoch (e : Nat) (b : List UInt8) (z : Int) (h1 : 1 ≤ e) (h2 : e ≤ 1099511627776) (hb : b.length ≤ 268435456) : (scanZ (stampedL (stampOf z) (frameOf e 0 b)) z).1.length = if z = e then 1 else 0 := by
  by_cases hz : 1 ≤ z ∧ z ≤ 1099511627776
  · obtain ⟨o, rfl⟩ : ∃ o : Nat, z = o := ⟨z.toNat, by omega⟩
    by_cases ho : o = e
    · subst ho
      exact tell_scan o b o h1 h2 hb
    · rw [stampOf_nat o (by omega), scanZ_epoch _ _ (by omega) (by omega), scanOf]
      obtain ⟨k, hk⟩ := stream_stamped o (by omega) _ (frameOf e 0 b) (Nat.le_refl _)
      rw [hk, scan_none _ _ (next_epoch _ o 0 (by omega) (by omega) (by rw [frame_epoch e 0 b _ (by omega)]; omega)), if_neg (by omega)]; rfl
  · rw [scanZ_not _ _ hz, if_neg (by omega)]; rfl

/-- A frame of which some neighbouring bytes of those that are summed (but for its length) are other ones is not found. -/
theorem tell_turned (e : Nat) (b : List UInt8) (k : Nat) (xs : List UInt8) (i : Nat) (h1 : 1 ≤ e) (h2 : e ≤ 1099511627776) (hb : b.length ≤ 268435456) (hk : 4 ≤ k) (hki : k + i ≤ 16 + b.length) (hi : i ≤ 4) (hx : xs.length = 4) :
    ((scanZ (stampedL (stampOf e) (frT (tw (frM e 0 b) k xs i) (frS e 0 b))) e).1.length : Nat) = if (xs.take i).all (· == 0) = true then 1 else 0 := by
  have hM := frM_length e 0 b
  have hS := frS_length e 0 b
  cases ha : (xs.take i).all (· == 0) with
  | true =>
    rw [tw_all _ _ _ _ (by omega) (by omega) ha, frT_frame]
    exact (tell_scan e b e h1 h2 hb).trans (by rw [if_pos rfl, if_pos rfl])
  | false =>
    rw [if_neg (by decide), stampOf_nat e h2, scanZ_epoch _ _ h1 h2, scanOf]
    obtain ⟨j, hj⟩ := stream_stamped e h2 _ (frT (tw (frM e 0 b) k xs i) (frS e 0 b)) (Nat.le_refl _)
    have htl : (tw (frM e 0 b) k xs i).length = 16 + b.length := by rw [tw_length _ _ _ _ (by omega) (by omega), hM]
    have hfl : (frT (tw (frM e 0 b) k xs i) (frS e 0 b)).length = 20 + b.length := by rw [frT_length _ _ hS (by omega), htl]; omega
    have h4 : (frT (tw (frM e 0 b) k xs i) (frS e 0 b) ++ List.replicate j 0).take 4 = le 4 b.length := by
      rw [List.take_append_of_le_length (by omega), frT, List.append_assoc, List.take_append_of_le_length (by rw [List.length_take]; omega), List.take_take, Nat.min_eq_left (by omega), tw_take4 _ _ _ _ hk (by omega)]
      rw [frM, List.take_append_of_le_length (by rw [jHead_length]; omega), jHead, List.append_assoc, List.take_left' (le_length 4 _)]
    have hu : unle ((frT (tw (frM e 0 b) k xs i) (frS e 0 b) ++ List.replicate j 0).take 4) = b.length := by rw [h4, unle_le, Nat.mod_eq_of_lt (by omega)]
    rw [hj, scan_none _ _ (next_not _ e 0 b.length hu (by omega) (by omega) (fun _ hs => ?_))]
    · rfl
    · rw [List.take_left' (by rw [hfl])] at hs
      have h3 := hs.2.2
      obtain ⟨e1, e2⟩ := frT_sum (M := tw (frM e 0 b) k xs i) hS (by omega)
      rw [e1, e2, frS, unle_le, Nat.mod_eq_of_lt (by have := (jSum e 0 b).isLt; omega)] at h3
      have ht := tw_tells (frM e 0 b) k xs i (by omega) (by omega) hi
      rw [ha, beq_eq_false_iff_ne] at ht
      apply ht
      unfold ui
      rw [← h3]
      rfl

end Go.Proofs.YtaaimonnpmfnlaaDoor
